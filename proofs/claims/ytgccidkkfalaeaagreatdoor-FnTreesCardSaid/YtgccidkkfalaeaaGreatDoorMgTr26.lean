/- Contracts: the reference's draws of arguments over trees. -/
import Derived.StillTailTactics
import Derived.Deep.DeepCutAuto
import Derived.Deep.QuietTactic
import Derived.BigQuiet
import Derived.Test.YtgccidkkfalaeaaGreatDoorMgTr24
import Derived.Test.YtgccidkkfalaeaaGreatDoorMgTr25
import Derived.Test.YtgccidkkfalaeaaGreatDoorMgTr9
import Derived.Test.YtgccidkkfalaeaaGreatDoorMgTr10
import Derived.Test.YtgccidkkfalaeaaGreatDoorMgTr23
namespace Go.Proofs.YtgccidkkfalaeaaGreatDoor
open Go.ChangeShapes Go.WideShapes Go.ChangeAt Go.RowKit

/-- A draw of arguments, under way: its cursor in the block behind the result's. -/
structure Dr (w W : World) (C : Option Addr) (n cc m : Nat) : Prop where
  cur : CurB W (w.heap.size + 1) C n cc m
  byt : Byt W C n
  bel : Below w.heap.size w W
  res : BlkT W w.heap.size (.slice none 0 0) (.slice none 0 0)
section
variable {w W W' : World} {C : Option Addr} {n cc m m' : Nat}
theorem Dr.mono (h : Dr w W C n cc m) (hm : m ≤ m') : Dr w W C n cc m' := ⟨h.cur.mono hm, h.byt, h.bel, h.res⟩
theorem Dr.below (h : Dr w W C n cc m) (hb : Below W.heap.size W W') : Dr w W' C n cc m := ⟨h.cur.below hb, h.byt.below hb, keep_below hb h.bel, h.res.below hb⟩
theorem Dr.draw (h : Dr w W C n cc m) (hne : ∀ b o, 0 < n → C = some ⟨b, o, none⟩ → b ≠ w.heap.size + 1) (hd : Drew W (w.heap.size + 1) C n cc m' W') : Dr w W' C n cc m' :=
  ⟨hd.1, h.byt.kept hd.2 hne, hd.2.below h.bel (by omega) (by omega), (hd.2.block _ h.res.lt (by omega) (by omega)).trans h.res⟩
theorem Dr.start (w : World) (C : Option Addr) (n cc : Nat) (hB : Byt w C n) : Dr w ((w.alloc (.cells #[.slice none 0 0, .slice none 0 0] 26)).alloc (.cells #[.slice C n cc, .int .i64 0, .int .u64 0] 48)) C n cc 0 := by
  have hs : (w.alloc (.cells #[.slice none 0 0, .slice none 0 0] 26)).heap.size = w.heap.size + 1 := by simp
  have hb1 : Below w.heap.size w (w.alloc (.cells #[.slice none 0 0, .slice none 0 0] 26)) := (Below.refl _ _).alloc (Nat.le_refl _) _
  have hb2 := (Below.refl (w.alloc (.cells #[.slice none 0 0, .slice none 0 0] 26)).heap.size (w.alloc (.cells #[.slice none 0 0, .slice none 0 0] 26))).alloc (Nat.le_refl _) (.cells #[.slice C n cc, .int .i64 0, .int .u64 0] 48)
  have hc := cur_new (w.alloc (.cells #[.slice none 0 0, .slice none 0 0] 26)) C n cc
  rw [hs] at hc
  exact ⟨hc, (hB.below hb1).below hb2, keep_below hb2 hb1, (BlkT.new w _ _ rfl : BlkT _ w.heap.size _ _).below hb2⟩
theorem Dr.siz (h : Dr w W C n cc m) : w.heap.size + 2 ≤ W.heap.size := h.cur.lt
end
/-- Draws hand back a tree and two lists. -/
def RetD3 (w : World) (e : Ending) (w' : World) : Prop := ∃ (X Y L M : List Int) (A B P Q : Option Addr) (c d p q : Nat), e = .returned (.tuple #[.agg #[.slice A X.length c, .slice B Y.length d], .slice P L.length p, .slice Q M.length q]) ∧ IntS w' A X ∧ IntS w' B Y ∧ IntS w' P L ∧ IntS w' Q M ∧ X.length ≤ 25 ∧ Y.length ≤ 50 ∧ L.length ≤ 25 ∧ M.length ≤ 25 ∧ Bd X ∧ Bd Y ∧ Bd L ∧ Bd M ∧ Below w.heap.size w w'
/-- Draws hand back a tree, a number and a list. -/
def RetDI (w : World) (e : Ending) (w' : World) : Prop := ∃ (X Y M : List Int) (z : Int) (A B Q : Option Addr) (c d q : Nat), e = .returned (.tuple #[.agg #[.slice A X.length c, .slice B Y.length d], .int .i64 z, .slice Q M.length q]) ∧ IntS w' A X ∧ IntS w' B Y ∧ IntS w' Q M ∧ X.length ≤ 25 ∧ Y.length ≤ 50 ∧ M.length ≤ 25 ∧ Bd X ∧ Bd Y ∧ (-9223372036854775808 ≤ z ∧ z ≤ 9223372036854775807) ∧ Bd M ∧ Below w.heap.size w w'
/-- Draws hand back a tree and a list. -/
def RetD2 (w : World) (e : Ending) (w' : World) : Prop := ∃ (X Y L : List Int) (A B P : Option Addr) (c d p : Nat), e = .returned (.tuple #[.agg #[.slice A X.length c, .slice B Y.length d], .slice P L.length p]) ∧ IntS w' A X ∧ IntS w' B Y ∧ IntS w' P L ∧ X.length ≤ 25 ∧ Y.length ≤ 50 ∧ L.length ≤ 25 ∧ Bd X ∧ Bd Y ∧ Bd L ∧ Below w.heap.size w w'
end Go.Proofs.YtgccidkkfalaeaaGreatDoor
/- Contracts: the reference's draws of a tree and a number. -/
namespace Go.Proofs.YtgccidkkfalaeaaGreatDoor
open Go.ChangeShapes Go.WideShapes Go.ChangeAt Go.RowKit

/-- Draws hand back a tree and a number. -/
def RetDz (w : World) (e : Ending) (w' : World) : Prop := ∃ (X Y : List Int) (z : Int) (A B : Option Addr) (c d : Nat), e = .returned (.tuple #[.agg #[.slice A X.length c, .slice B Y.length d], .int .i64 z]) ∧ IntS w' A X ∧ IntS w' B Y ∧ X.length ≤ 25 ∧ Y.length ≤ 50 ∧ Bd X ∧ Bd Y ∧ (-9223372036854775808 ≤ z ∧ z ≤ 9223372036854775807) ∧ Below w.heap.size w w'
set_option maxHeartbeats 4000000 in
set_option maxRecDepth 100000 in
theorem drawCut_any (C : Option Addr) (n cc : Nat) (w : World) (hB : Byt w C n) (hn : n ≤ 1000000) : Calls Tryz.prog 5 #[.slice C n cc] w (RetDz w) := by
  have hne : ∀ b o, 0 < n → C = some ⟨b, o, none⟩ → b ≠ w.heap.size + 1 := fun b o h0 e => by have := byt_lt hB h0 e; omega
  have hC : ∀ W : World, w.heap.size ≤ W.heap.size → ∀ b o, 0 < n → C = some ⟨b, o, none⟩ → b < W.heap.size := fun W hW b o h0 e => by have := byt_lt hB h0 e; omega
  have HT := Lib.hid (fun W m (hs : Dr w W C n cc m) (hm : m + 200 ≤ 1000000) => tree_draw W hs.cur hs.byt hne (hC W hs.bel.size) hn hm)
  have HS := Lib.hid (fun W q m (hs : Dr w W C n cc m) (hq : 1 ≤ q ∧ q ≤ 24) (hm : m + 200 ≤ 1000000) => someTree_draw q W hs.cur hs.byt hne (hC W hs.bel.size) hm hn hq)
  have HD := Lib.hid (fun W W' m m' (hs : Dr w W C n cc m) (hd : Drew W (w.heap.size + 1) C n cc m' W') => hs.draw hne hd)
  have HP := Lib.hid (fun W (p : Int) m (hs : Dr w W C n cc m) (hm : m + 1 ≤ 1000000) (hp : 1 ≤ p ∧ p ≤ 1000000000) => pick_draw p W hs.cur hs.byt hne hm hn hp)
  have HO := Lib.hid (fun W (p : Int) m (hs : Dr w W C n cc m) (hm : m + 1 ≤ 1000000) (hp : 1 ≤ p ∧ p ≤ 1000000000) => one_draw p W hs.cur hs.byt hne hm hn hp)
  have HA := Lib.hid (fun W (A : Option Addr) (c : Nat) (xs : List Int) m (hs : Dr w W C n cc m) (hm : m + 1 ≤ 1000000) (b : IntS W A xs) (d : ∀ b o, A = some ⟨b, o, none⟩ → b ≠ w.heap.size + 1) (e : 1 ≤ xs.length ∧ xs.length ≤ 1000) => among_draw A c xs W hs.cur hs.byt hne hm hn b d e)
  have hdr := Dr.start w C n cc hB
  obtain ⟨w0, hw0⟩ : ∃ W, W = (w.alloc (.cells #[.slice none 0 0, .slice none 0 0] 26)).alloc (.cells #[.slice C n cc, .int .i64 0, .int .u64 0] 48) := ⟨_, rfl⟩
  rw [← hw0] at hdr
  have hs0 : w0.heap.size = w.heap.size + 2 := by rw [hw0]; simp
  have HR8 : Hid (∀ j, j < 8 → -9223372036854775808 ≤ nth ([1, 2, 0, 3, 4, 24, -1, 4611686018427387904] : List Int) j ∧ nth ([1, 2, 0, 3, 4, 24, -1, 4611686018427387904] : List Int) j ≤ 9223372036854775807) := by show ∀ j, j < 8 → _; decide
  have HL8 : Hid ((i64s ([1, 2, 0, 3, 4, 24, -1, 4611686018427387904] : List Int)).toArray = #[.int .i64 1, .int .i64 2, .int .i64 0, .int .i64 3, .int .i64 4, .int .i64 24, .int .i64 (-1), .int .i64 4611686018427387904]) := rfl
  clear hne hC hB HP HO HS
  go_enter Tryz.func5, Tryz.ntmps5
  go_wp2_with fail
  rw [← hw0]
  refine (HT.out _ _ hdr (by omega)).mono ?_
  rintro e1 w1 ⟨X, Y, A, B, c, d, rfl, hA, hY, hap, hX, hYl, bX, bY, hd⟩
  rw [hs0] at hA hY
  replace hdr := HD.out _ _ _ _ hdr hd
  clear hd hw0 hs0 HT hap
  have hI := list_IntS w1 ([1, 2, 0, 3, 4, 24, -1, 4611686018427387904] : List Int) (by decide)
  rw [HL8.out] at hI
  have hgl := hdr.siz
  have hbA : Below w1.heap.size w1 (w1.alloc (.cells #[.int .i64 1, .int .i64 2, .int .i64 0, .int .i64 3, .int .i64 4, .int .i64 24, .int .i64 (-1), .int .i64 4611686018427387904] 3)) := (Below.refl _ _).alloc (Nat.le_refl _) _
  replace hdr := hdr.below hbA
  replace hA := hA.below hbA
  replace hY := hY.below hbA
  clear hbA
  go_wp2_with fail
  refine (HA.out _ _ 8 ([1, 2, 0, 3, 4, 24, -1, 4611686018427387904] : List Int) _ hdr (by omega) hI (fun b o e => by injection e with e; injection e with e; omega) (by decide)).mono ?_
  rintro e1 w2 ⟨j1, hj1, rfl, hd⟩
  have hz := HR8.out j1 hj1
  generalize nth ([1, 2, 0, 3, 4, 24, -1, 4611686018427387904] : List Int) j1 = z at *
  replace hdr := HD.out _ _ _ _ hdr hd
  replace hA := hd.2.own hA (by omega) (by omega)
  replace hY := hd.2.own hY (by omega) (by omega)
  clear hd hI hgl hj1 HR8 HL8 HA
  have r0 := hdr.res.c0
  have r1 := hdr.res.c1
  have rf0 := hdr.res.free 0
  have rf1 := hdr.res.free 1
  have hkb := ((KeptBut.refl2 w2 w.heap.size).setg 0 (.slice A X.length c)).setg 1 (.slice B Y.length d)
  replace hA := hkb.own hA (by omega) (by omega)
  replace hY := hkb.own hY (by omega) (by omega)
  have hw9 : Below w.heap.size w ((w2.setCell ⟨w.heap.size, 0, none⟩ (.slice A X.length c)).setCell ⟨w.heap.size, 1, none⟩ (.slice B Y.length d)) := Below.setCell' (p := ⟨w.heap.size, 1, none⟩) (Nat.le_refl _) (Below.setCell' (p := ⟨w.heap.size, 0, none⟩) (Nat.le_refl _) hdr.bel _) _
  have hwH := Lib.hid hw9
  have HX := Lib.hid hX
  have HYl := Lib.hid hYl
  clear hw9 hdr hkb hX hYl
  go_wp2
  refine bodyPost_ret (v := .tuple #[.agg #[.slice A X.length c, .slice B Y.length d], .int .i64 z]) (by simp (maxDischargeDepth := 9) [results, Tryz.results5, go_sem, *]) rfl ⟨X, Y, z, A, B, c, d, rfl, hA.ints, hY.ints, HX.out, HYl.out, bX, bY, hz, hwH.out⟩
set_option maxHeartbeats 4000000 in
set_option maxRecDepth 100000 in
theorem drawNode_any (C : Option Addr) (n cc : Nat) (w : World) (hB : Byt w C n) (hn : n ≤ 1000000) : Calls Tryz.prog 54 #[.slice C n cc] w (RetDz w) := by
  have hne : ∀ b o, 0 < n → C = some ⟨b, o, none⟩ → b ≠ w.heap.size + 1 := fun b o h0 e => by have := byt_lt hB h0 e; omega
  have hC : ∀ W : World, w.heap.size ≤ W.heap.size → ∀ b o, 0 < n → C = some ⟨b, o, none⟩ → b < W.heap.size := fun W hW b o h0 e => by have := byt_lt hB h0 e; omega
  have HT := Lib.hid (fun W m (hs : Dr w W C n cc m) (hm : m + 200 ≤ 1000000) => tree_draw W hs.cur hs.byt hne (hC W hs.bel.size) hn hm)
  have HS := Lib.hid (fun W q m (hs : Dr w W C n cc m) (hq : 1 ≤ q ∧ q ≤ 24) (hm : m + 200 ≤ 1000000) => someTree_draw q W hs.cur hs.byt hne (hC W hs.bel.size) hm hn hq)
  have HD := Lib.hid (fun W W' m m' (hs : Dr w W C n cc m) (hd : Drew W (w.heap.size + 1) C n cc m' W') => hs.draw hne hd)
  have HP := Lib.hid (fun W (p : Int) m (hs : Dr w W C n cc m) (hm : m + 1 ≤ 1000000) (hp : 1 ≤ p ∧ p ≤ 1000000000) => pick_draw p W hs.cur hs.byt hne hm hn hp)
  have HO := Lib.hid (fun W (p : Int) m (hs : Dr w W C n cc m) (hm : m + 1 ≤ 1000000) (hp : 1 ≤ p ∧ p ≤ 1000000000) => one_draw p W hs.cur hs.byt hne hm hn hp)
  have HA := Lib.hid (fun W (A : Option Addr) (c : Nat) (xs : List Int) m (hs : Dr w W C n cc m) (hm : m + 1 ≤ 1000000) (b : IntS W A xs) (d : ∀ b o, A = some ⟨b, o, none⟩ → b ≠ w.heap.size + 1) (e : 1 ≤ xs.length ∧ xs.length ≤ 1000) => among_draw A c xs W hs.cur hs.byt hne hm hn b d e)
  have hdr := Dr.start w C n cc hB
  obtain ⟨w0, hw0⟩ : ∃ W, W = (w.alloc (.cells #[.slice none 0 0, .slice none 0 0] 26)).alloc (.cells #[.slice C n cc, .int .i64 0, .int .u64 0] 48) := ⟨_, rfl⟩
  rw [← hw0] at hdr
  have hs0 : w0.heap.size = w.heap.size + 2 := by rw [hw0]; simp
  have HN := Lib.hid (fun W m A B k c l d (hs : Dr w W C n cc m) (hm : m + 20 ≤ 1000000) (hk : k ≤ 1000) => nodeOf_draw A B k c l d W hs.cur hs.byt hne (hC W hs.bel.size) hn hm hk)
  clear hne hC hB HP HO HA
  go_enter Tryz.func54, Tryz.ntmps54
  go_wp2_with fail
  rw [← hw0]
  refine (HT.out _ _ hdr (by omega)).mono ?_
  rintro e1 w1 ⟨X, Y, A, B, c, d, rfl, hA, hY, hap, hX, hYl, bX, bY, hd⟩
  rw [hs0] at hA hY
  replace hdr := HD.out _ _ _ _ hdr hd
  clear hd hw0 hs0 HT HS
  go_upto_region 3 with (fail)
  obtain ⟨w2, hw2⟩ : ∃ W, W = w1.alloc (.cells #[.slice A X.length c, .slice B Y.length d] 26) := ⟨_, rfl⟩
  rw [← hw2]
  have hbA : Below w1.heap.size w1 w2 := by rw [hw2]; exact (Below.refl _ _).alloc (Nat.le_refl _) _
  have hbx : BlkT w2 w1.heap.size (.slice A X.length c) (.slice B Y.length d) := by rw [hw2]; exact BlkT.new w1 _ _ rfl
  have hgT := hdr.siz
  replace hdr := hdr.below hbA
  replace hA := hA.below hbA
  replace hY := hY.below hbA
  clear hw2 hbA
  generalize w1.heap.size = gT at *
  have t0 := hbx.c0
  have t1 := hbx.c1
  have hw := hdr.bel
  clear hbx
  refine wp_region_held_drew (S := fun w' => w'.cell? ⟨gT, 0, none⟩ = some (.slice A X.length c) ∧ w'.cell? ⟨gT, 1, none⟩ = some (.slice B Y.length d) ∧ Below w.heap.size w w') (by kernel_rfl) ⟨t0, t1, hw.drew⟩ (fun hHeld => ?_)
  refine wpAnyH_take (i := 0) (oi := ?oos1) (v := ?vvs1) ?his1 (by kernel_rfl) (by kernel_rfl) (by kernel_rfl) ?hqs1 (Or.inl ⟨?hgs1, ?hys1⟩) (by assumption) ?rests1
  case his1 => simp only [List.getElem?_toArray, List.getElem?_cons_zero]; rfl
  case hqs1 => exact fun _ _ _ h => h
  case hgs1 => rfl
  case hys1 =>
    intro wq hSw
    obtain ⟨t0, t1, hw⟩ := hSw
    go_simp
    (try with_reducible rfl)
  (try simp only [Act.put, List.setIfInBounds_toArray, List.set_cons_zero, List.set_cons_succ])
  refine wpAnyH_take (i := 1) (oi := ?oos2) (v := ?vvs2) ?his2 (by kernel_rfl) (by kernel_rfl) (by kernel_rfl) ?hqs2 (Or.inl ⟨?hgs2, ?hys2⟩) (by assumption) ?rests2
  case his2 => simp only [List.getElem?_toArray, List.getElem?_cons_zero, List.getElem?_cons_succ]; rfl
  case hqs2 => exact fun _ _ _ h => h
  case hgs2 => rfl
  case hys2 =>
    intro wq hSw
    obtain ⟨t0, t1, hw⟩ := hSw
    go_simp
    (try with_reducible rfl)
  (try simp only [Act.put, List.setIfInBounds_toArray, List.set_cons_zero, List.set_cons_succ])
  refine wpAnyH_take (i := 2) (oi := ?oos3) (v := ?vvs3) ?his3 (by kernel_rfl) (by kernel_rfl) (by kernel_rfl) ?hqs3 (Or.inl ⟨?hgs3, ?hys3⟩) (by assumption) ?rests3
  case his3 => simp only [List.getElem?_toArray, List.getElem?_cons_zero, List.getElem?_cons_succ]; rfl
  case hqs3 => exact fun _ _ _ h => h
  case hgs3 => rfl
  case hys3 =>
    intro wq hSw
    obtain ⟨t0, t1, hw⟩ := hSw
    go_simp
    (try with_reducible rfl)
  (try simp only [Act.put, List.setIfInBounds_toArray, List.set_cons_zero, List.set_cons_succ])
  refine wpAnyH_ready (rs := [3]) (by kernel_rfl) (by simp) ?_
  refine AllReadyH.cons (i := 3) (o := ?oos4) ?hos4 (fun K9 hK9 => ?hsteps4) AllReadyH.nil
  case hos4 => simp only [List.getElem?_toArray, List.getElem?_cons_zero, List.getElem?_cons_succ]; rfl
  go_simp
  replace hdr := hdr.below (Below.drew (Below.refl _ _))
  replace hA := hA.below (Below.drew (Below.refl _ _))
  replace hY := hY.below (Below.drew (Below.refl _ _))
  replace t0 : w2.drew.cell? ⟨gT, 0, none⟩ = some (.slice A X.length c) := t0
  replace t1 : w2.drew.cell? ⟨gT, 1, none⟩ = some (.slice B Y.length d) := t1
  replace hw := hw.drew
  clear hHeld
  refine (HN.out _ _ A B X.length c Y.length d hdr (by omega) (by omega)).mono ?_
  rintro e1 wds4 ⟨z, rfl, hz, hd⟩
  replace hdr := HD.out _ _ _ _ hdr hd
  replace hA := hd.2.own hA (by omega) (by omega)
  replace hY := hd.2.own hY (by omega) (by omega)
  replace t0 := hd.2.cell t0 (by simp; omega) (by simp; omega)
  replace t1 := hd.2.cell t1 (by simp; omega) (by simp; omega)
  replace hw := hd.2.below hw (by omega) (by omega)
  clear hd
  go_wp2_with fail
  refine hK9.out _ _ ⟨t0, t1, hw⟩ (fun hHeld => ?_)
  clear hK9 K9
  (try simp only [Act.put, List.setIfInBounds_toArray, List.set_cons_zero, List.set_cons_succ])
  refine wpAnyH_ready (rs := [4]) (by kernel_rfl) (by simp) ?_
  refine AllReadyH.cons (i := 4) (o := ?oos5) ?hos5 (fun K9 hK9 => ?hsteps5) AllReadyH.nil
  case hos5 => simp only [List.getElem?_toArray, List.getElem?_cons_zero, List.getElem?_cons_succ]; rfl
  have r0 := hdr.res.c0
  have r1 := hdr.res.c1
  have rf0 := hdr.res.free 0
  have rf1 := hdr.res.free 1
  go_simp
  clear hHeld
  refine hK9.out _ _ ⟨cell_far (g := w.heap.size) (cell_far (g := w.heap.size) t0 (by simp; omega) 0) (by simp; omega) 1, cell_far (g := w.heap.size) (cell_far (g := w.heap.size) t1 (by simp; omega) 0) (by simp; omega) 1, Below.setCell' (p := ⟨w.heap.size, 1, none⟩) (by simp) (Below.setCell' (p := ⟨w.heap.size, 0, none⟩) (by simp) hw _) _⟩ (fun hHeld => ?_)
  clear hK9 K9
  (try simp only [Act.put, List.setIfInBounds_toArray, List.set_cons_zero, List.set_cons_succ])
  refine wpAnyH_name hHeld (fun wys5 hHa hwz => ?_)
  replace t0 : wys5.cell? ⟨gT, 0, none⟩ = some (.slice A X.length c) := by rw [hwz]; exact cell_far (g := w.heap.size) (cell_far (g := w.heap.size) t0 (by simp; omega) 0) (by simp; omega) 1
  replace t1 : wys5.cell? ⟨gT, 1, none⟩ = some (.slice B Y.length d) := by rw [hwz]; exact cell_far (g := w.heap.size) (cell_far (g := w.heap.size) t1 (by simp; omega) 0) (by simp; omega) 1
  replace hw : Below w.heap.size w wys5 := by rw [hwz]; exact Below.setCell' (p := ⟨w.heap.size, 1, none⟩) (by simp) (Below.setCell' (p := ⟨w.heap.size, 0, none⟩) (by simp) hw _) _
  have hkb := (((KeptBut.refl2 wds4 w.heap.size).setg 0 (.slice A X.length c)).setg 1 (.slice B Y.length d))
  rw [← hwz] at hkb
  replace hA := hkb.own hA (by omega) (by omega)
  replace hY := hkb.own hY (by omega) (by omega)
  have hres : BlkT wys5 w.heap.size (.slice A X.length c) (.slice B Y.length d) := by rw [hwz]; exact (hdr.res.set0 _).set1 _
  clear hdr r0 r1 rf0 rf1 hkb
  clear hHeld hwz
  have hHeld := hHa
  clear hHa
  refine wpAnyH_take (i := 5) (oi := ?oos6) (v := ?vvs6) ?his6 (by kernel_rfl) (by kernel_rfl) (by kernel_rfl) ?hqs6 (Or.inl ⟨?hgs6, ?hys6⟩) (by assumption) ?rests6
  case his6 => simp only [List.getElem?_toArray, List.getElem?_cons_zero, List.getElem?_cons_succ]; rfl
  case hqs6 => exact fun _ _ _ h => h
  case hgs6 => rfl
  case hys6 =>
    intro wq hSw
    obtain ⟨t0, t1, hw⟩ := hSw
    go_simp
    (try with_reducible rfl)
  (try simp only [Act.put, List.setIfInBounds_toArray, List.set_cons_zero, List.set_cons_succ])
  clear hHeld
  refine wpAnyH_done (by kernel_rfl) ?_ _
  have r0 := hres.c0
  have r1 := hres.c1
  have hw9 := Lib.hid hw
  clear hres hw t0 t1
  go_wp2
  refine bodyPost_ret (v := .tuple #[.agg #[.slice A X.length c, .slice B Y.length d], .int .i64 z]) (by simp (maxDischargeDepth := 9) [results, Tryz.results54, go_sem, *]) rfl ⟨X, Y, z, A, B, c, d, rfl, hA.ints, hY.ints, hX, hYl, bX, bY, hz, hw9.out⟩
end Go.Proofs.YtgccidkkfalaeaaGreatDoor
/- Contracts: PruneTree of the reference. -/
namespace Go.Proofs.YtgccidkkfalaeaaGreatDoor
open Go.ChangeShapes Go.WideShapes Go.ChangeAt Go.RowKit

theorem own_nil {w : World} {B : Nat} {v : Value} {n : Nat} {L : List Int} (h : w.ownsRow B 3 1 v n (i64s L)) : ∃ A c, v = .slice A L.length c ∧ OwnS w B A L ∧ n = L.length := by
  obtain ⟨A, c, hv, hO⟩ := own_form h
  exact ⟨A, c, hv, hO, by have := h.1; simpa [i64s] using this.symm⟩
theorem neor {v u : Value} (h : ∀ g : Nat, v.ownBlock = some g → u.ownBlock ≠ some g) : v.ownBlock = none ∨ v.ownBlock ≠ u.ownBlock := by
  cases e : v.ownBlock with
  | none => exact .inl rfl
  | some g => exact .inr (fun h2 => h g e h2.symm)
theorem nesym {v u : Value} (h : ∀ g : Nat, v.ownBlock = some g → u.ownBlock ≠ some g) : ∀ g : Nat, u.ownBlock = some g → v.ownBlock ≠ some g := fun g e k => h g k e
set_option maxHeartbeats 16000000 in
set_option maxRecDepth 100000 in
theorem specPruneTree_any (A B : Option Addr) (c e : Nat) (xs ys : List Int) (d9 : Int) (w : World) (h : IntS w A xs) (k : IntS w B ys) (_hx : Bd xs) (_hy : Bd ys) (_hd9 : -9223372036854775808 ≤ d9 ∧ d9 ≤ 9223372036854775807) (hn : xs.length ≤ 1048576) (hm : ys.length ≤ 1048576) :
    Calls Tryz.prog 23 #[.agg #[.slice A xs.length c, .slice B ys.length e], .int .i64 d9] w (RetTB w (prRP xs ys d9) (prRW xs ys d9) (prOk xs ys d9)) := by
  obtain ⟨r1, q1⟩ : ∃ r, (good xs ys) = r := ⟨_, rfl⟩
  cases r1
  case false =>
    have hO : prIn xs ys d9 = false := by unfold prIn ; simp [q1]
    have hV_prRP := prRP_no hO
    have hV_prRW := prRW_no hO
    have hV_prOk := prOk_no hO
    rw [hV_prRP]
    rw [hV_prRW]
    rw [hV_prOk]
    (try rw [hO])
    clear hO hV_prRP hV_prRW hV_prOk
    have HG1 := Lib.hid (fun W (h : IntS W A xs) (k : IntS W B ys) => l2Good_any A B c e xs ys W h k _hx _hy hn hm)
    rw [q1] at HG1
    clear q1 _hx _hy 
    go_enter Tryz.func23, Tryz.ntmps23
    go_wp2_with fail
    refine (HG1.out _ ((h.alloc _).alloc _) ((k.alloc _).alloc _)).mono ?_
    rintro e1 w1 ⟨rfl, hb⟩
    have hx0 : w1.cell? ⟨w.heap.size, 0, none⟩ = some (.slice A xs.length c) := keep_cell hb (by simp)
    have hx1 : w1.cell? ⟨w.heap.size, 1, none⟩ = some (.slice B ys.length e) := keep_cell hb (by simp)
    have hRs := (BlkT.new (g := w.heap.size + 1) (w.alloc _) (.slice none 0 0) (.slice none 0 0) (by simp)).below hb
    have hw : Below w.heap.size w w1 := below_alloc (below_alloc (hb))
    clear hb
    have hr0 := hRs.c0
    have hr1 := hRs.c1
    have hf0 := hRs.free 0
    have hf1 := hRs.free 1
    go_wp2
    refine bodyPost_ret (v := .tuple #[.agg #[.slice none 0 0, .slice none 0 0], .bool false]) (by simp (maxDischargeDepth := 9) [results, Tryz.results23, go_sem, *]) rfl ⟨none, 0, none, 0, rfl, .inl ⟨rfl, rfl⟩, .inl ⟨rfl, rfl⟩, (fun _ _ e1 => by cases e1), ?_⟩
    (repeat (first | with_reducible exact Below.refl _ _ | with_reducible assumption | with_reducible refine Below.alloc' ?_ ?_ _ | with_reducible refine Below.setCell' ?_ ?_ _ | with_reducible refine Below.drewN' ?_ _ | with_reducible refine Below.drew ?_ | with_reducible refine Below.transA ?_ (by assumption) ?_ | omega | (focus (simp; done)) | (focus (simp; omega))))
  case true =>
    obtain ⟨r2, q2⟩ : ∃ r, (decide (0 ≤ d9)) = r := ⟨_, rfl⟩
    cases r2
    case false =>
      have hO : prIn xs ys d9 = false := by unfold prIn ; simp [q1, q2]
      have hV_prRP := prRP_no hO
      have hV_prRW := prRW_no hO
      have hV_prOk := prOk_no hO
      rw [hV_prRP]
      rw [hV_prRW]
      rw [hV_prOk]
      (try rw [hO])
      clear hO hV_prRP hV_prRW hV_prOk
      have HG1 := Lib.hid (fun W (h : IntS W A xs) (k : IntS W B ys) => l2Good_any A B c e xs ys W h k _hx _hy hn hm)
      rw [q1] at HG1
      have dn : d9 < 0 := by have := of_decide_eq_false q2; omega
      have dn2 : decide (d9 < 0) = true := decide_eq_true dn
      clear q1 q2 _hx _hy 
      go_enter Tryz.func23, Tryz.ntmps23
      go_wp2_with fail
      refine (HG1.out _ ((h.alloc _).alloc _) ((k.alloc _).alloc _)).mono ?_
      rintro e1 w1 ⟨rfl, hb⟩
      have hx0 : w1.cell? ⟨w.heap.size, 0, none⟩ = some (.slice A xs.length c) := keep_cell hb (by simp)
      have hx1 : w1.cell? ⟨w.heap.size, 1, none⟩ = some (.slice B ys.length e) := keep_cell hb (by simp)
      have hRs := (BlkT.new (g := w.heap.size + 1) (w.alloc _) (.slice none 0 0) (.slice none 0 0) (by simp)).below hb
      have hw : Below w.heap.size w w1 := below_alloc (below_alloc (hb))
      clear hb
      have hr0 := hRs.c0
      have hr1 := hRs.c1
      have hf0 := hRs.free 0
      have hf1 := hRs.free 1
      go_wp2
      refine bodyPost_ret (v := .tuple #[.agg #[.slice none 0 0, .slice none 0 0], .bool false]) (by simp (maxDischargeDepth := 9) [results, Tryz.results23, go_sem, *]) rfl ⟨none, 0, none, 0, rfl, .inl ⟨rfl, rfl⟩, .inl ⟨rfl, rfl⟩, (fun _ _ e1 => by cases e1), ?_⟩
      (repeat (first | with_reducible exact Below.refl _ _ | with_reducible assumption | with_reducible refine Below.alloc' ?_ ?_ _ | with_reducible refine Below.setCell' ?_ ?_ _ | with_reducible refine Below.drewN' ?_ _ | with_reducible refine Below.drew ?_ | with_reducible refine Below.transA ?_ (by assumption) ?_ | omega | (focus (simp; done)) | (focus (simp; omega))))
    case true =>
      have hO : prIn xs ys d9 = true := by unfold prIn ; simp [q1, q2]
      have hV_prRP := prRP_yes hO
      have hV_prRW := prRW_yes hO
      have hV_prOk := prOk_yes hO
      rw [hV_prRP]
      rw [hV_prRW]
      rw [hV_prOk]
      (try rw [hO])
      clear hO hV_prRP hV_prRW hV_prOk
      have HG1 := Lib.hid (fun W (h : IntS W A xs) (k : IntS W B ys) => l2Good_any A B c e xs ys W h k _hx _hy hn hm)
      rw [q1] at HG1
      have dn : ¬ (d9 < 0) := by have := of_decide_eq_true q2; omega
      have dn2 : decide (d9 < 0) = false := decide_eq_false dn
      have hgl := good_len q1
      have hn1 := hgl.1
      have hn24 : xs.length ≤ 24 := hgl.2.1
      have HYN : Hid (ys.length = xs.length) := hgl.2.2
      have HDp := Lib.hid (fun W (h : IntS W A xs) => l2Depths_any A B c ys.length e xs W h hn1 (by omega) (good_iff.1 q1).2.1)
      have HSu := Lib.hid (fun W (h : IntS W A xs) (k : IntS W B ys) => l2Sums_good q1 A B c e W h k)
      have HU := Lib.hid (good_upL q1)
      have hd0 := of_decide_eq_true q2
      have HK0 := Lib.hid (pr_root hn1 hd0)
      have HKp : Hid (∀ x, prKeep xs d9 x = decide (nth (dep xs xs.length) x ≤ d9)) := fun x => rfl
      have HWt : Hid (∀ x, prWt xs ys d9 x = if nth (dep xs xs.length) x = d9 then nth (sumsL xs ys) x else nth ys x) := fun x => rfl
      have HWq := Lib.hid (fun (x : Nat) (hx : x < xs.length) => pr_wt q1 d9 hx)
      have HP0 : Hid (prPar xs d9 0 = -1) := rfl
      have HPr := Lib.hid (fun (x p : Nat) (h1 : 1 ≤ x) (hx : x < xs.length) (hp : nth xs x = p) (hpx : p < x) (hk : prKeep xs d9 x = true) => pr_par h1 hx hp hpx hk)
      have HPl : Hid (∀ k, ((prP xs d9 k).length : Int) = prAt xs d9 k) := fun k => by unfold prP prAt; rw [selK_len]
      have HWl : Hid (∀ k, (prW xs ys d9 k).length = (prP xs d9 k).length) := fun k => by unfold prW prP; rw [selK_len, selK_len]
      have HPe : Hid (∀ k, (prP xs d9 k).length ≤ k) := fun k => selK_le _ _ k
      have HPy : Hid (∀ k, prKeep xs d9 k = true → prP xs d9 (k + 1) = prP xs d9 k ++ [prPar xs d9 k]) := fun k h => selK_yes h
      have HPn : Hid (∀ k, prKeep xs d9 k = false → prP xs d9 (k + 1) = prP xs d9 k) := fun k h => selK_no h
      have HWy : Hid (∀ k, prKeep xs d9 k = true → prW xs ys d9 (k + 1) = prW xs ys d9 k ++ [prWt xs ys d9 k]) := fun k h => selK_yes h
      have HWn : Hid (∀ k, prKeep xs d9 k = false → prW xs ys d9 (k + 1) = prW xs ys d9 k) := fun k h => selK_no h
      have HP00 : Hid (prP xs d9 0 = []) := rfl
      have HW00 : Hid (prW xs ys d9 0 = []) := rfl
      have HDL : Hid ((dep xs xs.length).length = xs.length) := dep_len xs xs.length
      have HSL : Hid ((sumsL xs ys).length = xs.length) := sums_len q1
      have HDL1 : Hid (1 ≤ (dep xs xs.length).length) := by have := HDL.out; show 1 ≤ _; omega
      have HSL1 : Hid (1 ≤ (sumsL xs ys).length) := by have := HSL.out; show 1 ≤ _; omega
      have HGd := Lib.hid (fun W (P' W' : Option Addr) (cp cw : Nat) (hP : IntS W P' (prP xs d9 xs.length)) (hW : IntS W W' (prW xs ys d9 xs.length)) => l2Good_any P' W' cp cw (prP xs d9 xs.length) (prW xs ys d9 xs.length) W hP hW (prP_bd q1 d9) (prW_bd q1 d9) (by have := HPe.out xs.length; omega) (by have := HPe.out xs.length; have := HWl.out xs.length; omega))
      have HAs := Lib.hid (fun k => prA_succ xs d9 k)
      have HAl := Lib.hid (fun k => prA_len xs d9 k)
      have HAn := Lib.hid (fun (k j : Nat) (hj : j < k) => prA_nth xs d9 hj)
      have HA0 : Hid (prA xs d9 0 = []) := rfl
      obtain ⟨r, hr⟩ : ∃ r, good (prP xs d9 xs.length) (prW xs ys d9 xs.length) = r := ⟨_, rfl⟩
      rw [hr] at HGd ⊢
      clear hr hgl hd0
      generalize dep xs xs.length = DP at *
      generalize sumsL xs ys = SU at *
      generalize prP xs d9 = PF at *
      generalize prW xs ys d9 = WF at *
      generalize prKeep xs d9 = KP at *
      generalize prPar xs d9 = PR at *
      generalize prWt xs ys d9 = WT at *
      generalize prA xs d9 = AA at *
      generalize prAt xs d9 = AT at *
      clear q1 q2 _hx _hy 
      go_enter Tryz.func23, Tryz.ntmps23
      go_wp2_with fail
      refine (HG1.out _ ((h.alloc _).alloc _) ((k.alloc _).alloc _)).mono ?_
      rintro e1 w1 ⟨rfl, hb⟩
      have hx0 : w1.cell? ⟨w.heap.size, 0, none⟩ = some (.slice A xs.length c) := keep_cell hb (by simp)
      have hx1 : w1.cell? ⟨w.heap.size, 1, none⟩ = some (.slice B ys.length e) := keep_cell hb (by simp)
      have hRs := (BlkT.new (g := w.heap.size + 1) (w.alloc _) (.slice none 0 0) (.slice none 0 0) (by simp)).below hb
      have hw : Below w.heap.size w w1 := below_alloc (below_alloc (hb))
      clear hb
      clear HG1
      obtain ⟨i0, hi, hz0, hz1, hz2⟩ := info_parts info_int
      go_upto_region 3 with (fail)
      go_cut [6, 7, 8] (fun s6 s7 s8 wy => ∃ wx : World, wx = wy ∧ ∃ gP gW gT gD gS cD cS : Nat, s6 = .pointer (some ⟨gT, 0, none⟩) ∧ s7 = .slice (some ⟨gD, 0, none⟩) DP.length cD ∧ s8 = .slice (some ⟨gS, 0, none⟩) SU.length cS ∧ gP ≠ gW ∧ gP ≠ gT ∧ gD ≠ gP ∧ gP ≠ gS ∧ gT ≠ gW ∧ gD ≠ gW ∧ gS ≠ gW ∧ gD ≠ gT ∧ gS ≠ gT ∧ gD ≠ gS ∧ w.heap.size + 2 ≤ gP ∧ w.heap.size + 2 ≤ gW ∧ w.heap.size + 2 ≤ gT ∧ wx.ownsRow (w.heap.size + 2) 3 1 (.slice (some ⟨gP, 0, none⟩) 0 0) 0 (i64s []) ∧ wx.ownsRow (w.heap.size + 2) 3 1 (.slice (some ⟨gW, 0, none⟩) 0 0) 0 (i64s []) ∧ BlkT wx gT (.slice (some ⟨gP, 0, none⟩) 0 0) (.slice (some ⟨gW, 0, none⟩) 0 0) ∧ Row wx gD DP ∧ Row wx gS SU ∧ BlkT wx (w.heap.size + 1) (.slice none 0 0) (.slice none 0 0) ∧ wx.cell? ⟨w.heap.size, 0, none⟩ = some (.slice A xs.length c) ∧ wx.cell? ⟨w.heap.size, 1, none⟩ = some (.slice B ys.length e) ∧ Below w.heap.size w wx)
      case first =>
        refine wp_region_held_drew (S := fun w' => w'.cell? ⟨w.heap.size, 0, none⟩ = some (.slice A xs.length c) ∧ w'.cell? ⟨w.heap.size, 1, none⟩ = some (.slice B ys.length e) ∧ Below w.heap.size w w') (by kernel_rfl) ⟨hx0, hx1, hw.drew⟩ (fun hHeld => ?_)
        refine wpAnyH_take (i := 3) (oi := ?_) (v := ?_) ?_ (by kernel_rfl) (by kernel_rfl) (by kernel_rfl) ?_ (Or.inl ⟨?_, ?_⟩) (by assumption) ?_
        rotate_left 2
        · simp only [List.getElem?_toArray, List.getElem?_cons_zero, List.getElem?_cons_succ]; rfl
        · exact fun _ _ _ h => h
        · rfl
        · intro wq hSw
          obtain ⟨hx0, hx1, hw⟩ := hSw
          go_simp
          (try with_reducible rfl)
        (try simp only [Act.put, List.setIfInBounds_toArray, List.set_cons_zero, List.set_cons_succ])
        refine wpAnyH_take (i := 5) (oi := ?_) (v := ?_) ?_ (by kernel_rfl) (by kernel_rfl) (by kernel_rfl) ?_ (Or.inl ⟨?_, ?_⟩) (by assumption) ?_
        rotate_left 2
        · simp only [List.getElem?_toArray, List.getElem?_cons_zero, List.getElem?_cons_succ]; rfl
        · exact fun _ _ _ h => h
        · rfl
        · intro wq hSw
          obtain ⟨hx0, hx1, hw⟩ := hSw
          go_simp
          (try with_reducible rfl)
        (try simp only [Act.put, List.setIfInBounds_toArray, List.set_cons_zero, List.set_cons_succ])
        all_goals
          first
          | (refine wpAnyH_ready (rs := [0, 1, 4, 7]) (by kernel_rfl) (by simp) ?_
             refine AllReadyH.cons (i := 0) (o := ?_) ?_ (fun K9 hK9 => ?_) ?_
             rotate_left 1
             · simp only [List.getElem?_toArray, List.getElem?_cons_zero]; rfl
             go_simp
             clear hHeld
             refine hK9.out _ _ ⟨keep_cell (Below.drew ((Below.refl w1.heap.size w1).alloc (Nat.le_refl _) _)) hx0, keep_cell (Below.drew ((Below.refl w1.heap.size w1).alloc (Nat.le_refl _) _)) hx1, Below.drew (keep_below_alloc hw _)⟩ (fun hHeld => ?_)
             clear hK9 K9
             (try simp only [Act.put, List.setIfInBounds_toArray, List.set_cons_zero, List.set_cons_succ])
             refine wpAnyH_name hHeld (fun w1x hHa hwz => ?_)
             have hbA : Below w1.heap.size w1 w1x := by rw [hwz]; exact Below.drew ((Below.refl w1.heap.size w1).alloc (Nat.le_refl _) _)
             have hwo : w.heap.size + 2 ≤ w1.heap.size := hRs.lt
             replace hx0 := keep_cell hbA hx0
             replace hx1 := keep_cell hbA hx1
             replace hRs := hRs.below hbA
             replace hw := keep_below hbA hw
             have hownP : w1x.ownsRow (w.heap.size + 2) 3 1 (.slice (some ⟨w1.heap.size, 0, none⟩) 0 0) 0 (i64s []) := by rw [hwz]; exact own_empty w1 (w.heap.size + 2) w1.heap.size rfl hwo
             have hbP : w.heap.size + 2 ≤ w1.heap.size := hwo
             clear hwo
             generalize w1.heap.size = gP at hownP hbP  ⊢
             clear hHeld hbA hwz
             have hHeld := hHa
             clear hHa
             rotate_left 1
             refine AllReadyH.cons (i := 1) (o := ?_) ?_ (fun K9 hK9 => ?_) ?_
             rotate_left 1
             · simp only [List.getElem?_toArray, List.getElem?_cons_zero, List.getElem?_cons_succ]; rfl
             go_simp
             clear hHeld
             refine hK9.out _ _ ⟨keep_cell (Below.drew ((Below.refl w1.heap.size w1).alloc (Nat.le_refl _) _)) hx0, keep_cell (Below.drew ((Below.refl w1.heap.size w1).alloc (Nat.le_refl _) _)) hx1, Below.drew (keep_below_alloc hw _)⟩ (fun hHeld => ?_)
             clear hK9 K9
             (try simp only [Act.put, List.setIfInBounds_toArray, List.set_cons_zero, List.set_cons_succ])
             refine wpAnyH_name hHeld (fun w1x hHa hwz => ?_)
             have hbA : Below w1.heap.size w1 w1x := by rw [hwz]; exact Below.drew ((Below.refl w1.heap.size w1).alloc (Nat.le_refl _) _)
             have hwo : w.heap.size + 2 ≤ w1.heap.size := hRs.lt
             replace hx0 := keep_cell hbA hx0
             replace hx1 := keep_cell hbA hx1
             replace hRs := hRs.below hbA
             replace hw := keep_below hbA hw
             have hownW : w1x.ownsRow (w.heap.size + 2) 3 1 (.slice (some ⟨w1.heap.size, 0, none⟩) 0 0) 0 (i64s []) := by rw [hwz]; exact own_empty w1 (w.heap.size + 2) w1.heap.size rfl hwo
             have hbW : w.heap.size + 2 ≤ w1.heap.size := hwo
             clear hwo
             generalize w1.heap.size = gW at hownW hbW  ⊢
             clear hHeld hbA hwz
             have hHeld := hHa
             clear hHa
             rotate_left 1
             refine AllReadyH.cons (i := 4) (o := ?_) ?_ (fun K9 hK9 => ?_) ?_
             rotate_left 1
             · simp only [List.getElem?_toArray, List.getElem?_cons_zero, List.getElem?_cons_succ]; rfl
             go_simp
             refine (HDp.out _ (h.below hw.drew)).mono ?_
             rintro e1 w1x ⟨AD, cD, rfl, hoD, hb⟩
             obtain ⟨gD, rfl, hgD, hrD⟩ := hoD.pos HDL1.out
             clear hoD
             have hbD : w.heap.size + 2 ≤ gD := Nat.le_trans hRs.lt hgD
             replace hb : Below w1.heap.size w1 w1x := ⟨hb.os, hb.tape, hb.output, hb.size, hb.block⟩
             replace hx0 := keep_cell hb hx0
             replace hx1 := keep_cell hb hx1
             replace hRs := hRs.below hb
             replace hw := keep_below hb hw
             clear hHeld
             go_wp2_with fail
             refine hK9.out _ _ ⟨hx0, hx1, hw⟩ (fun hHeld => ?_)
             clear hK9 K9 hb
             (try simp only [Act.put, List.setIfInBounds_toArray, List.set_cons_zero, List.set_cons_succ])
             rotate_left 1
             refine AllReadyH.cons (i := 7) (o := ?_) ?_ (fun K9 hK9 => ?_) ?_
             rotate_left 1
             · simp only [List.getElem?_toArray, List.getElem?_cons_zero, List.getElem?_cons_succ]; rfl
             go_simp
             clear hHeld
             refine hK9.out _ _ ⟨keep_cell (Below.drew ((Below.refl w1.heap.size w1).alloc (Nat.le_refl _) _)) hx0, keep_cell (Below.drew ((Below.refl w1.heap.size w1).alloc (Nat.le_refl _) _)) hx1, Below.drew (keep_below_alloc hw _)⟩ (fun hHeld => ?_)
             clear hK9 K9
             (try simp only [Act.put, List.setIfInBounds_toArray, List.set_cons_zero, List.set_cons_succ])
             refine wpAnyH_name hHeld (fun w1x hHa hwz => ?_)
             have hbA : Below w1.heap.size w1 w1x := by rw [hwz]; exact Below.drew ((Below.refl w1.heap.size w1).alloc (Nat.le_refl _) _)
             have hwo : w.heap.size + 2 ≤ w1.heap.size := hRs.lt
             replace hx0 := keep_cell hbA hx0
             replace hx1 := keep_cell hbA hx1
             replace hRs := hRs.below hbA
             replace hw := keep_below hbA hw
             have hT : BlkT w1x w1.heap.size (.slice none 0 0) (.slice none 0 0) := by rw [hwz]; exact BlkT.new w1 _ _ rfl
             have hbT : w.heap.size + 2 ≤ w1.heap.size := hwo
             clear hwo
             generalize w1.heap.size = gT at hT hbT  ⊢
             clear hHeld hbA hwz
             have hHeld := hHa
             clear hHa
             rotate_left 1
             exact AllReadyH.nil)
        all_goals
          first
          | (refine wpAnyH_ready (rs := [1, 4, 7]) (by kernel_rfl) (by simp) ?_
             refine AllReadyH.cons (i := 1) (o := ?_) ?_ (fun K9 hK9 => ?_) ?_
             rotate_left 1
             · simp only [List.getElem?_toArray, List.getElem?_cons_zero, List.getElem?_cons_succ]; rfl
             go_simp
             clear hHeld
             refine hK9.out _ _ ⟨keep_cell ((Below.refl w1x.heap.size w1x).alloc (Nat.le_refl _) _) hx0, keep_cell ((Below.refl w1x.heap.size w1x).alloc (Nat.le_refl _) _) hx1, keep_below_alloc hw _⟩ (fun hHeld => ?_)
             clear hK9 K9
             (try simp only [Act.put, List.setIfInBounds_toArray, List.set_cons_zero, List.set_cons_succ])
             refine wpAnyH_name hHeld (fun w2x hHa hwz => ?_)
             have hbA : Below w1x.heap.size w1x w2x := by rw [hwz]; exact (Below.refl w1x.heap.size w1x).alloc (Nat.le_refl _) _
             have hwo : w.heap.size + 2 ≤ w1x.heap.size := hRs.lt
             have dPW : gP ≠ w1x.heap.size := by have := (show gP < w1x.heap.size from (hownP.lt gP rfl).2); omega
             replace hx0 := keep_cell hbA hx0
             replace hx1 := keep_cell hbA hx1
             replace hRs := hRs.below hbA
             replace hownP := own_below hownP hbA
             replace hw := keep_below hbA hw
             have hownW : w2x.ownsRow (w.heap.size + 2) 3 1 (.slice (some ⟨w1x.heap.size, 0, none⟩) 0 0) 0 (i64s []) := by rw [hwz]; exact own_empty w1x (w.heap.size + 2) w1x.heap.size rfl hwo
             have hbW : w.heap.size + 2 ≤ w1x.heap.size := hwo
             clear hwo
             generalize w1x.heap.size = gW at hownW hbW dPW ⊢
             clear hHeld hbA hwz
             have hHeld := hHa
             clear hHa
             refine wpAnyH_take (i := 2) (oi := ?_) (v := ?_) ?_ (by kernel_rfl) (by kernel_rfl) (by kernel_rfl) ?_ (Or.inl ⟨?_, ?_⟩) (by assumption) ?_
             rotate_left 2
             · simp only [List.getElem?_toArray, List.getElem?_cons_zero, List.getElem?_cons_succ]; rfl
             · exact fun _ _ _ h => h
             · rfl
             · intro wq hSw
               obtain ⟨hx0, hx1, hw⟩ := hSw
               go_simp
               (try with_reducible rfl)
             (try simp only [Act.put, List.setIfInBounds_toArray, List.set_cons_zero, List.set_cons_succ])
             rotate_left 1
             refine AllReadyH.cons (i := 4) (o := ?_) ?_ (fun K9 hK9 => ?_) ?_
             rotate_left 1
             · simp only [List.getElem?_toArray, List.getElem?_cons_zero, List.getElem?_cons_succ]; rfl
             go_simp
             refine (HDp.out _ (h.below hw)).mono ?_
             rintro e1 w2x ⟨AD, cD, rfl, hoD, hb⟩
             obtain ⟨gD, rfl, hgD, hrD⟩ := hoD.pos HDL1.out
             clear hoD
             have dDP : gD ≠ gP := by have := (show gP < w1x.heap.size from (hownP.lt gP rfl).2); omega
             have hbD : w.heap.size + 2 ≤ gD := Nat.le_trans hRs.lt hgD
             replace hx0 := keep_cell hb hx0
             replace hx1 := keep_cell hb hx1
             replace hRs := hRs.below hb
             replace hownP := own_below hownP hb
             replace hw := keep_below hb hw
             clear hHeld
             go_wp2_with fail
             refine hK9.out _ _ ⟨hx0, hx1, hw⟩ (fun hHeld => ?_)
             clear hK9 K9 hb
             (try simp only [Act.put, List.setIfInBounds_toArray, List.set_cons_zero, List.set_cons_succ])
             rotate_left 1
             refine AllReadyH.cons (i := 7) (o := ?_) ?_ (fun K9 hK9 => ?_) ?_
             rotate_left 1
             · simp only [List.getElem?_toArray, List.getElem?_cons_zero, List.getElem?_cons_succ]; rfl
             go_simp
             clear hHeld
             refine hK9.out _ _ ⟨keep_cell ((Below.refl w1x.heap.size w1x).alloc (Nat.le_refl _) _) hx0, keep_cell ((Below.refl w1x.heap.size w1x).alloc (Nat.le_refl _) _) hx1, keep_below_alloc hw _⟩ (fun hHeld => ?_)
             clear hK9 K9
             (try simp only [Act.put, List.setIfInBounds_toArray, List.set_cons_zero, List.set_cons_succ])
             refine wpAnyH_name hHeld (fun w2x hHa hwz => ?_)
             have hbA : Below w1x.heap.size w1x w2x := by rw [hwz]; exact (Below.refl w1x.heap.size w1x).alloc (Nat.le_refl _) _
             have hwo : w.heap.size + 2 ≤ w1x.heap.size := hRs.lt
             have dPT : gP ≠ w1x.heap.size := by have := (show gP < w1x.heap.size from (hownP.lt gP rfl).2); omega
             replace hx0 := keep_cell hbA hx0
             replace hx1 := keep_cell hbA hx1
             replace hRs := hRs.below hbA
             replace hownP := own_below hownP hbA
             replace hw := keep_below hbA hw
             have hT : BlkT w2x w1x.heap.size (.slice none 0 0) (.slice none 0 0) := by rw [hwz]; exact BlkT.new w1x _ _ rfl
             have hbT : w.heap.size + 2 ≤ w1x.heap.size := hwo
             clear hwo
             generalize w1x.heap.size = gT at hT hbT dPT ⊢
             clear hHeld hbA hwz
             have hHeld := hHa
             clear hHa
             rotate_left 1
             exact AllReadyH.nil)
          | (refine wpAnyH_ready (rs := [0, 4, 7]) (by kernel_rfl) (by simp) ?_
             refine AllReadyH.cons (i := 0) (o := ?_) ?_ (fun K9 hK9 => ?_) ?_
             rotate_left 1
             · simp only [List.getElem?_toArray, List.getElem?_cons_zero]; rfl
             go_simp
             clear hHeld
             refine hK9.out _ _ ⟨keep_cell ((Below.refl w1x.heap.size w1x).alloc (Nat.le_refl _) _) hx0, keep_cell ((Below.refl w1x.heap.size w1x).alloc (Nat.le_refl _) _) hx1, keep_below_alloc hw _⟩ (fun hHeld => ?_)
             clear hK9 K9
             (try simp only [Act.put, List.setIfInBounds_toArray, List.set_cons_zero, List.set_cons_succ])
             refine wpAnyH_name hHeld (fun w2x hHa hwz => ?_)
             have hbA : Below w1x.heap.size w1x w2x := by rw [hwz]; exact (Below.refl w1x.heap.size w1x).alloc (Nat.le_refl _) _
             have hwo : w.heap.size + 2 ≤ w1x.heap.size := hRs.lt
             have dPW : w1x.heap.size ≠ gW := by have := (show gW < w1x.heap.size from (hownW.lt gW rfl).2); omega
             replace hx0 := keep_cell hbA hx0
             replace hx1 := keep_cell hbA hx1
             replace hRs := hRs.below hbA
             replace hownW := own_below hownW hbA
             replace hw := keep_below hbA hw
             have hownP : w2x.ownsRow (w.heap.size + 2) 3 1 (.slice (some ⟨w1x.heap.size, 0, none⟩) 0 0) 0 (i64s []) := by rw [hwz]; exact own_empty w1x (w.heap.size + 2) w1x.heap.size rfl hwo
             have hbP : w.heap.size + 2 ≤ w1x.heap.size := hwo
             clear hwo
             generalize w1x.heap.size = gP at hownP hbP dPW ⊢
             clear hHeld hbA hwz
             have hHeld := hHa
             clear hHa
             refine wpAnyH_take (i := 2) (oi := ?_) (v := ?_) ?_ (by kernel_rfl) (by kernel_rfl) (by kernel_rfl) ?_ (Or.inl ⟨?_, ?_⟩) (by assumption) ?_
             rotate_left 2
             · simp only [List.getElem?_toArray, List.getElem?_cons_zero, List.getElem?_cons_succ]; rfl
             · exact fun _ _ _ h => h
             · rfl
             · intro wq hSw
               obtain ⟨hx0, hx1, hw⟩ := hSw
               go_simp
               (try with_reducible rfl)
             (try simp only [Act.put, List.setIfInBounds_toArray, List.set_cons_zero, List.set_cons_succ])
             rotate_left 1
             refine AllReadyH.cons (i := 4) (o := ?_) ?_ (fun K9 hK9 => ?_) ?_
             rotate_left 1
             · simp only [List.getElem?_toArray, List.getElem?_cons_zero, List.getElem?_cons_succ]; rfl
             go_simp
             refine (HDp.out _ (h.below hw)).mono ?_
             rintro e1 w2x ⟨AD, cD, rfl, hoD, hb⟩
             obtain ⟨gD, rfl, hgD, hrD⟩ := hoD.pos HDL1.out
             clear hoD
             have dDW : gD ≠ gW := by have := (show gW < w1x.heap.size from (hownW.lt gW rfl).2); omega
             have hbD : w.heap.size + 2 ≤ gD := Nat.le_trans hRs.lt hgD
             replace hx0 := keep_cell hb hx0
             replace hx1 := keep_cell hb hx1
             replace hRs := hRs.below hb
             replace hownW := own_below hownW hb
             replace hw := keep_below hb hw
             clear hHeld
             go_wp2_with fail
             refine hK9.out _ _ ⟨hx0, hx1, hw⟩ (fun hHeld => ?_)
             clear hK9 K9 hb
             (try simp only [Act.put, List.setIfInBounds_toArray, List.set_cons_zero, List.set_cons_succ])
             rotate_left 1
             refine AllReadyH.cons (i := 7) (o := ?_) ?_ (fun K9 hK9 => ?_) ?_
             rotate_left 1
             · simp only [List.getElem?_toArray, List.getElem?_cons_zero, List.getElem?_cons_succ]; rfl
             go_simp
             clear hHeld
             refine hK9.out _ _ ⟨keep_cell ((Below.refl w1x.heap.size w1x).alloc (Nat.le_refl _) _) hx0, keep_cell ((Below.refl w1x.heap.size w1x).alloc (Nat.le_refl _) _) hx1, keep_below_alloc hw _⟩ (fun hHeld => ?_)
             clear hK9 K9
             (try simp only [Act.put, List.setIfInBounds_toArray, List.set_cons_zero, List.set_cons_succ])
             refine wpAnyH_name hHeld (fun w2x hHa hwz => ?_)
             have hbA : Below w1x.heap.size w1x w2x := by rw [hwz]; exact (Below.refl w1x.heap.size w1x).alloc (Nat.le_refl _) _
             have hwo : w.heap.size + 2 ≤ w1x.heap.size := hRs.lt
             have dTW : w1x.heap.size ≠ gW := by have := (show gW < w1x.heap.size from (hownW.lt gW rfl).2); omega
             replace hx0 := keep_cell hbA hx0
             replace hx1 := keep_cell hbA hx1
             replace hRs := hRs.below hbA
             replace hownW := own_below hownW hbA
             replace hw := keep_below hbA hw
             have hT : BlkT w2x w1x.heap.size (.slice none 0 0) (.slice none 0 0) := by rw [hwz]; exact BlkT.new w1x _ _ rfl
             have hbT : w.heap.size + 2 ≤ w1x.heap.size := hwo
             clear hwo
             generalize w1x.heap.size = gT at hT hbT dTW ⊢
             clear hHeld hbA hwz
             have hHeld := hHa
             clear hHa
             rotate_left 1
             exact AllReadyH.nil)
          | (refine wpAnyH_ready (rs := [0, 1, 6, 7]) (by kernel_rfl) (by simp) ?_
             refine AllReadyH.cons (i := 0) (o := ?_) ?_ (fun K9 hK9 => ?_) ?_
             rotate_left 1
             · simp only [List.getElem?_toArray, List.getElem?_cons_zero]; rfl
             go_simp
             clear hHeld
             refine hK9.out _ _ ⟨keep_cell ((Below.refl w1x.heap.size w1x).alloc (Nat.le_refl _) _) hx0, keep_cell ((Below.refl w1x.heap.size w1x).alloc (Nat.le_refl _) _) hx1, keep_below_alloc hw _⟩ (fun hHeld => ?_)
             clear hK9 K9
             (try simp only [Act.put, List.setIfInBounds_toArray, List.set_cons_zero, List.set_cons_succ])
             refine wpAnyH_name hHeld (fun w2x hHa hwz => ?_)
             have hbA : Below w1x.heap.size w1x w2x := by rw [hwz]; exact (Below.refl w1x.heap.size w1x).alloc (Nat.le_refl _) _
             have hwo : w.heap.size + 2 ≤ w1x.heap.size := hRs.lt
             have dDP : gD ≠ w1x.heap.size := by have := hrD.lt; omega
             replace hx0 := keep_cell hbA hx0
             replace hx1 := keep_cell hbA hx1
             replace hRs := hRs.below hbA
             replace hrD := hrD.below hbA
             replace hw := keep_below hbA hw
             have hownP : w2x.ownsRow (w.heap.size + 2) 3 1 (.slice (some ⟨w1x.heap.size, 0, none⟩) 0 0) 0 (i64s []) := by rw [hwz]; exact own_empty w1x (w.heap.size + 2) w1x.heap.size rfl hwo
             have hbP : w.heap.size + 2 ≤ w1x.heap.size := hwo
             clear hwo
             generalize w1x.heap.size = gP at hownP hbP dDP ⊢
             clear hHeld hbA hwz
             have hHeld := hHa
             clear hHa
             rotate_left 1
             refine AllReadyH.cons (i := 1) (o := ?_) ?_ (fun K9 hK9 => ?_) ?_
             rotate_left 1
             · simp only [List.getElem?_toArray, List.getElem?_cons_zero, List.getElem?_cons_succ]; rfl
             go_simp
             clear hHeld
             refine hK9.out _ _ ⟨keep_cell ((Below.refl w1x.heap.size w1x).alloc (Nat.le_refl _) _) hx0, keep_cell ((Below.refl w1x.heap.size w1x).alloc (Nat.le_refl _) _) hx1, keep_below_alloc hw _⟩ (fun hHeld => ?_)
             clear hK9 K9
             (try simp only [Act.put, List.setIfInBounds_toArray, List.set_cons_zero, List.set_cons_succ])
             refine wpAnyH_name hHeld (fun w2x hHa hwz => ?_)
             have hbA : Below w1x.heap.size w1x w2x := by rw [hwz]; exact (Below.refl w1x.heap.size w1x).alloc (Nat.le_refl _) _
             have hwo : w.heap.size + 2 ≤ w1x.heap.size := hRs.lt
             have dDW : gD ≠ w1x.heap.size := by have := hrD.lt; omega
             replace hx0 := keep_cell hbA hx0
             replace hx1 := keep_cell hbA hx1
             replace hRs := hRs.below hbA
             replace hrD := hrD.below hbA
             replace hw := keep_below hbA hw
             have hownW : w2x.ownsRow (w.heap.size + 2) 3 1 (.slice (some ⟨w1x.heap.size, 0, none⟩) 0 0) 0 (i64s []) := by rw [hwz]; exact own_empty w1x (w.heap.size + 2) w1x.heap.size rfl hwo
             have hbW : w.heap.size + 2 ≤ w1x.heap.size := hwo
             clear hwo
             generalize w1x.heap.size = gW at hownW hbW dDW ⊢
             clear hHeld hbA hwz
             have hHeld := hHa
             clear hHa
             rotate_left 1
             refine AllReadyH.cons (i := 6) (o := ?_) ?_ (fun K9 hK9 => ?_) ?_
             rotate_left 1
             · simp only [List.getElem?_toArray, List.getElem?_cons_zero, List.getElem?_cons_succ]; rfl
             go_simp
             refine (HSu.out _ (h.below hw) (k.below hw)).mono ?_
             rintro e1 w2x ⟨AS, cS, rfl, hoS, hb⟩
             obtain ⟨gS, rfl, hgS, hrS⟩ := hoS.pos HSL1.out
             clear hoS
             have dDS : gD ≠ gS := by have := hrD.lt; omega
             have hbS : w.heap.size + 2 ≤ gS := Nat.le_trans hRs.lt hgS
             replace hx0 := keep_cell hb hx0
             replace hx1 := keep_cell hb hx1
             replace hRs := hRs.below hb
             replace hrD := hrD.below hb
             replace hw := keep_below hb hw
             clear hHeld
             go_wp2_with fail
             refine hK9.out _ _ ⟨hx0, hx1, hw⟩ (fun hHeld => ?_)
             clear hK9 K9 hb
             (try simp only [Act.put, List.setIfInBounds_toArray, List.set_cons_zero, List.set_cons_succ])
             rotate_left 1
             refine AllReadyH.cons (i := 7) (o := ?_) ?_ (fun K9 hK9 => ?_) ?_
             rotate_left 1
             · simp only [List.getElem?_toArray, List.getElem?_cons_zero, List.getElem?_cons_succ]; rfl
             go_simp
             clear hHeld
             refine hK9.out _ _ ⟨keep_cell ((Below.refl w1x.heap.size w1x).alloc (Nat.le_refl _) _) hx0, keep_cell ((Below.refl w1x.heap.size w1x).alloc (Nat.le_refl _) _) hx1, keep_below_alloc hw _⟩ (fun hHeld => ?_)
             clear hK9 K9
             (try simp only [Act.put, List.setIfInBounds_toArray, List.set_cons_zero, List.set_cons_succ])
             refine wpAnyH_name hHeld (fun w2x hHa hwz => ?_)
             have hbA : Below w1x.heap.size w1x w2x := by rw [hwz]; exact (Below.refl w1x.heap.size w1x).alloc (Nat.le_refl _) _
             have hwo : w.heap.size + 2 ≤ w1x.heap.size := hRs.lt
             have dDT : gD ≠ w1x.heap.size := by have := hrD.lt; omega
             replace hx0 := keep_cell hbA hx0
             replace hx1 := keep_cell hbA hx1
             replace hRs := hRs.below hbA
             replace hrD := hrD.below hbA
             replace hw := keep_below hbA hw
             have hT : BlkT w2x w1x.heap.size (.slice none 0 0) (.slice none 0 0) := by rw [hwz]; exact BlkT.new w1x _ _ rfl
             have hbT : w.heap.size + 2 ≤ w1x.heap.size := hwo
             clear hwo
             generalize w1x.heap.size = gT at hT hbT dDT ⊢
             clear hHeld hbA hwz
             have hHeld := hHa
             clear hHa
             rotate_left 1
             exact AllReadyH.nil)
          | (refine wpAnyH_ready (rs := [0, 1, 4]) (by kernel_rfl) (by simp) ?_
             refine AllReadyH.cons (i := 0) (o := ?_) ?_ (fun K9 hK9 => ?_) ?_
             rotate_left 1
             · simp only [List.getElem?_toArray, List.getElem?_cons_zero]; rfl
             go_simp
             clear hHeld
             refine hK9.out _ _ ⟨keep_cell ((Below.refl w1x.heap.size w1x).alloc (Nat.le_refl _) _) hx0, keep_cell ((Below.refl w1x.heap.size w1x).alloc (Nat.le_refl _) _) hx1, keep_below_alloc hw _⟩ (fun hHeld => ?_)
             clear hK9 K9
             (try simp only [Act.put, List.setIfInBounds_toArray, List.set_cons_zero, List.set_cons_succ])
             refine wpAnyH_name hHeld (fun w2x hHa hwz => ?_)
             have hbA : Below w1x.heap.size w1x w2x := by rw [hwz]; exact (Below.refl w1x.heap.size w1x).alloc (Nat.le_refl _) _
             have hwo : w.heap.size + 2 ≤ w1x.heap.size := hRs.lt
             have dPT : w1x.heap.size ≠ gT := by have := hT.lt; omega
             replace hx0 := keep_cell hbA hx0
             replace hx1 := keep_cell hbA hx1
             replace hRs := hRs.below hbA
             replace hT := hT.below hbA
             replace hw := keep_below hbA hw
             have hownP : w2x.ownsRow (w.heap.size + 2) 3 1 (.slice (some ⟨w1x.heap.size, 0, none⟩) 0 0) 0 (i64s []) := by rw [hwz]; exact own_empty w1x (w.heap.size + 2) w1x.heap.size rfl hwo
             have hbP : w.heap.size + 2 ≤ w1x.heap.size := hwo
             clear hwo
             generalize w1x.heap.size = gP at hownP hbP dPT ⊢
             clear hHeld hbA hwz
             have hHeld := hHa
             clear hHa
             rotate_left 1
             refine AllReadyH.cons (i := 1) (o := ?_) ?_ (fun K9 hK9 => ?_) ?_
             rotate_left 1
             · simp only [List.getElem?_toArray, List.getElem?_cons_zero, List.getElem?_cons_succ]; rfl
             go_simp
             clear hHeld
             refine hK9.out _ _ ⟨keep_cell ((Below.refl w1x.heap.size w1x).alloc (Nat.le_refl _) _) hx0, keep_cell ((Below.refl w1x.heap.size w1x).alloc (Nat.le_refl _) _) hx1, keep_below_alloc hw _⟩ (fun hHeld => ?_)
             clear hK9 K9
             (try simp only [Act.put, List.setIfInBounds_toArray, List.set_cons_zero, List.set_cons_succ])
             refine wpAnyH_name hHeld (fun w2x hHa hwz => ?_)
             have hbA : Below w1x.heap.size w1x w2x := by rw [hwz]; exact (Below.refl w1x.heap.size w1x).alloc (Nat.le_refl _) _
             have hwo : w.heap.size + 2 ≤ w1x.heap.size := hRs.lt
             have dTW : gT ≠ w1x.heap.size := by have := hT.lt; omega
             replace hx0 := keep_cell hbA hx0
             replace hx1 := keep_cell hbA hx1
             replace hRs := hRs.below hbA
             replace hT := hT.below hbA
             replace hw := keep_below hbA hw
             have hownW : w2x.ownsRow (w.heap.size + 2) 3 1 (.slice (some ⟨w1x.heap.size, 0, none⟩) 0 0) 0 (i64s []) := by rw [hwz]; exact own_empty w1x (w.heap.size + 2) w1x.heap.size rfl hwo
             have hbW : w.heap.size + 2 ≤ w1x.heap.size := hwo
             clear hwo
             generalize w1x.heap.size = gW at hownW hbW dTW ⊢
             clear hHeld hbA hwz
             have hHeld := hHa
             clear hHa
             rotate_left 1
             refine AllReadyH.cons (i := 4) (o := ?_) ?_ (fun K9 hK9 => ?_) ?_
             rotate_left 1
             · simp only [List.getElem?_toArray, List.getElem?_cons_zero, List.getElem?_cons_succ]; rfl
             go_simp
             refine (HDp.out _ (h.below hw)).mono ?_
             rintro e1 w2x ⟨AD, cD, rfl, hoD, hb⟩
             obtain ⟨gD, rfl, hgD, hrD⟩ := hoD.pos HDL1.out
             clear hoD
             have dDT : gD ≠ gT := by have := hT.lt; omega
             have hbD : w.heap.size + 2 ≤ gD := Nat.le_trans hRs.lt hgD
             replace hx0 := keep_cell hb hx0
             replace hx1 := keep_cell hb hx1
             replace hRs := hRs.below hb
             replace hT := hT.below hb
             replace hw := keep_below hb hw
             clear hHeld
             go_wp2_with fail
             refine hK9.out _ _ ⟨hx0, hx1, hw⟩ (fun hHeld => ?_)
             clear hK9 K9 hb
             (try simp only [Act.put, List.setIfInBounds_toArray, List.set_cons_zero, List.set_cons_succ])
             rotate_left 1
             exact AllReadyH.nil)
        all_goals
          first
          | (refine wpAnyH_ready (rs := [4, 7]) (by kernel_rfl) (by simp) ?_
             refine AllReadyH.cons (i := 4) (o := ?_) ?_ (fun K9 hK9 => ?_) ?_
             rotate_left 1
             · simp only [List.getElem?_toArray, List.getElem?_cons_zero, List.getElem?_cons_succ]; rfl
             go_simp
             refine (HDp.out _ (h.below hw)).mono ?_
             rintro e1 w3x ⟨AD, cD, rfl, hoD, hb⟩
             obtain ⟨gD, rfl, hgD, hrD⟩ := hoD.pos HDL1.out
             clear hoD
             have dDP : gD ≠ gP := by have := (show gP < w2x.heap.size from (hownP.lt gP rfl).2); omega
             have dDW : gD ≠ gW := by have := (show gW < w2x.heap.size from (hownW.lt gW rfl).2); omega
             have hbD : w.heap.size + 2 ≤ gD := Nat.le_trans hRs.lt hgD
             replace hx0 := keep_cell hb hx0
             replace hx1 := keep_cell hb hx1
             replace hRs := hRs.below hb
             replace hownP := own_below hownP hb
             replace hownW := own_below hownW hb
             replace hw := keep_below hb hw
             clear hHeld
             go_wp2_with fail
             refine hK9.out _ _ ⟨hx0, hx1, hw⟩ (fun hHeld => ?_)
             clear hK9 K9 hb
             (try simp only [Act.put, List.setIfInBounds_toArray, List.set_cons_zero, List.set_cons_succ])
             rotate_left 1
             refine AllReadyH.cons (i := 7) (o := ?_) ?_ (fun K9 hK9 => ?_) ?_
             rotate_left 1
             · simp only [List.getElem?_toArray, List.getElem?_cons_zero, List.getElem?_cons_succ]; rfl
             go_simp
             clear hHeld
             refine hK9.out _ _ ⟨keep_cell ((Below.refl w2x.heap.size w2x).alloc (Nat.le_refl _) _) hx0, keep_cell ((Below.refl w2x.heap.size w2x).alloc (Nat.le_refl _) _) hx1, keep_below_alloc hw _⟩ (fun hHeld => ?_)
             clear hK9 K9
             (try simp only [Act.put, List.setIfInBounds_toArray, List.set_cons_zero, List.set_cons_succ])
             refine wpAnyH_name hHeld (fun w3x hHa hwz => ?_)
             have hbA : Below w2x.heap.size w2x w3x := by rw [hwz]; exact (Below.refl w2x.heap.size w2x).alloc (Nat.le_refl _) _
             have hwo : w.heap.size + 2 ≤ w2x.heap.size := hRs.lt
             have dPT : gP ≠ w2x.heap.size := by have := (show gP < w2x.heap.size from (hownP.lt gP rfl).2); omega
             have dTW : w2x.heap.size ≠ gW := by have := (show gW < w2x.heap.size from (hownW.lt gW rfl).2); omega
             replace hx0 := keep_cell hbA hx0
             replace hx1 := keep_cell hbA hx1
             replace hRs := hRs.below hbA
             replace hownP := own_below hownP hbA
             replace hownW := own_below hownW hbA
             replace hw := keep_below hbA hw
             have hT : BlkT w3x w2x.heap.size (.slice none 0 0) (.slice none 0 0) := by rw [hwz]; exact BlkT.new w2x _ _ rfl
             have hbT : w.heap.size + 2 ≤ w2x.heap.size := hwo
             clear hwo
             generalize w2x.heap.size = gT at hT hbT dPT dTW ⊢
             clear hHeld hbA hwz
             have hHeld := hHa
             clear hHa
             rotate_left 1
             exact AllReadyH.nil)
          | (refine wpAnyH_ready (rs := [1, 6, 7]) (by kernel_rfl) (by simp) ?_
             refine AllReadyH.cons (i := 1) (o := ?_) ?_ (fun K9 hK9 => ?_) ?_
             rotate_left 1
             · simp only [List.getElem?_toArray, List.getElem?_cons_zero, List.getElem?_cons_succ]; rfl
             go_simp
             clear hHeld
             refine hK9.out _ _ ⟨keep_cell ((Below.refl w2x.heap.size w2x).alloc (Nat.le_refl _) _) hx0, keep_cell ((Below.refl w2x.heap.size w2x).alloc (Nat.le_refl _) _) hx1, keep_below_alloc hw _⟩ (fun hHeld => ?_)
             clear hK9 K9
             (try simp only [Act.put, List.setIfInBounds_toArray, List.set_cons_zero, List.set_cons_succ])
             refine wpAnyH_name hHeld (fun w3x hHa hwz => ?_)
             have hbA : Below w2x.heap.size w2x w3x := by rw [hwz]; exact (Below.refl w2x.heap.size w2x).alloc (Nat.le_refl _) _
             have hwo : w.heap.size + 2 ≤ w2x.heap.size := hRs.lt
             have dPW : gP ≠ w2x.heap.size := by have := (show gP < w2x.heap.size from (hownP.lt gP rfl).2); omega
             have dDW : gD ≠ w2x.heap.size := by have := hrD.lt; omega
             replace hx0 := keep_cell hbA hx0
             replace hx1 := keep_cell hbA hx1
             replace hRs := hRs.below hbA
             replace hownP := own_below hownP hbA
             replace hrD := hrD.below hbA
             replace hw := keep_below hbA hw
             have hownW : w3x.ownsRow (w.heap.size + 2) 3 1 (.slice (some ⟨w2x.heap.size, 0, none⟩) 0 0) 0 (i64s []) := by rw [hwz]; exact own_empty w2x (w.heap.size + 2) w2x.heap.size rfl hwo
             have hbW : w.heap.size + 2 ≤ w2x.heap.size := hwo
             clear hwo
             generalize w2x.heap.size = gW at hownW hbW dPW dDW ⊢
             clear hHeld hbA hwz
             have hHeld := hHa
             clear hHa
             refine wpAnyH_take (i := 2) (oi := ?_) (v := ?_) ?_ (by kernel_rfl) (by kernel_rfl) (by kernel_rfl) ?_ (Or.inl ⟨?_, ?_⟩) (by assumption) ?_
             rotate_left 2
             · simp only [List.getElem?_toArray, List.getElem?_cons_zero, List.getElem?_cons_succ]; rfl
             · exact fun _ _ _ h => h
             · rfl
             · intro wq hSw
               obtain ⟨hx0, hx1, hw⟩ := hSw
               go_simp
               (try with_reducible rfl)
             (try simp only [Act.put, List.setIfInBounds_toArray, List.set_cons_zero, List.set_cons_succ])
             rotate_left 1
             refine AllReadyH.cons (i := 6) (o := ?_) ?_ (fun K9 hK9 => ?_) ?_
             rotate_left 1
             · simp only [List.getElem?_toArray, List.getElem?_cons_zero, List.getElem?_cons_succ]; rfl
             go_simp
             refine (HSu.out _ (h.below hw) (k.below hw)).mono ?_
             rintro e1 w3x ⟨AS, cS, rfl, hoS, hb⟩
             obtain ⟨gS, rfl, hgS, hrS⟩ := hoS.pos HSL1.out
             clear hoS
             have dPS : gP ≠ gS := by have := (show gP < w2x.heap.size from (hownP.lt gP rfl).2); omega
             have dDS : gD ≠ gS := by have := hrD.lt; omega
             have hbS : w.heap.size + 2 ≤ gS := Nat.le_trans hRs.lt hgS
             replace hx0 := keep_cell hb hx0
             replace hx1 := keep_cell hb hx1
             replace hRs := hRs.below hb
             replace hownP := own_below hownP hb
             replace hrD := hrD.below hb
             replace hw := keep_below hb hw
             clear hHeld
             go_wp2_with fail
             refine hK9.out _ _ ⟨hx0, hx1, hw⟩ (fun hHeld => ?_)
             clear hK9 K9 hb
             (try simp only [Act.put, List.setIfInBounds_toArray, List.set_cons_zero, List.set_cons_succ])
             rotate_left 1
             refine AllReadyH.cons (i := 7) (o := ?_) ?_ (fun K9 hK9 => ?_) ?_
             rotate_left 1
             · simp only [List.getElem?_toArray, List.getElem?_cons_zero, List.getElem?_cons_succ]; rfl
             go_simp
             clear hHeld
             refine hK9.out _ _ ⟨keep_cell ((Below.refl w2x.heap.size w2x).alloc (Nat.le_refl _) _) hx0, keep_cell ((Below.refl w2x.heap.size w2x).alloc (Nat.le_refl _) _) hx1, keep_below_alloc hw _⟩ (fun hHeld => ?_)
             clear hK9 K9
             (try simp only [Act.put, List.setIfInBounds_toArray, List.set_cons_zero, List.set_cons_succ])
             refine wpAnyH_name hHeld (fun w3x hHa hwz => ?_)
             have hbA : Below w2x.heap.size w2x w3x := by rw [hwz]; exact (Below.refl w2x.heap.size w2x).alloc (Nat.le_refl _) _
             have hwo : w.heap.size + 2 ≤ w2x.heap.size := hRs.lt
             have dPT : gP ≠ w2x.heap.size := by have := (show gP < w2x.heap.size from (hownP.lt gP rfl).2); omega
             have dDT : gD ≠ w2x.heap.size := by have := hrD.lt; omega
             replace hx0 := keep_cell hbA hx0
             replace hx1 := keep_cell hbA hx1
             replace hRs := hRs.below hbA
             replace hownP := own_below hownP hbA
             replace hrD := hrD.below hbA
             replace hw := keep_below hbA hw
             have hT : BlkT w3x w2x.heap.size (.slice none 0 0) (.slice none 0 0) := by rw [hwz]; exact BlkT.new w2x _ _ rfl
             have hbT : w.heap.size + 2 ≤ w2x.heap.size := hwo
             clear hwo
             generalize w2x.heap.size = gT at hT hbT dPT dDT ⊢
             clear hHeld hbA hwz
             have hHeld := hHa
             clear hHa
             rotate_left 1
             exact AllReadyH.nil)
          | (refine wpAnyH_ready (rs := [1, 4]) (by kernel_rfl) (by simp) ?_
             refine AllReadyH.cons (i := 1) (o := ?_) ?_ (fun K9 hK9 => ?_) ?_
             rotate_left 1
             · simp only [List.getElem?_toArray, List.getElem?_cons_zero, List.getElem?_cons_succ]; rfl
             go_simp
             clear hHeld
             refine hK9.out _ _ ⟨keep_cell ((Below.refl w2x.heap.size w2x).alloc (Nat.le_refl _) _) hx0, keep_cell ((Below.refl w2x.heap.size w2x).alloc (Nat.le_refl _) _) hx1, keep_below_alloc hw _⟩ (fun hHeld => ?_)
             clear hK9 K9
             (try simp only [Act.put, List.setIfInBounds_toArray, List.set_cons_zero, List.set_cons_succ])
             refine wpAnyH_name hHeld (fun w3x hHa hwz => ?_)
             have hbA : Below w2x.heap.size w2x w3x := by rw [hwz]; exact (Below.refl w2x.heap.size w2x).alloc (Nat.le_refl _) _
             have hwo : w.heap.size + 2 ≤ w2x.heap.size := hRs.lt
             have dPW : gP ≠ w2x.heap.size := by have := (show gP < w2x.heap.size from (hownP.lt gP rfl).2); omega
             have dTW : gT ≠ w2x.heap.size := by have := hT.lt; omega
             replace hx0 := keep_cell hbA hx0
             replace hx1 := keep_cell hbA hx1
             replace hRs := hRs.below hbA
             replace hownP := own_below hownP hbA
             replace hT := hT.below hbA
             replace hw := keep_below hbA hw
             have hownW : w3x.ownsRow (w.heap.size + 2) 3 1 (.slice (some ⟨w2x.heap.size, 0, none⟩) 0 0) 0 (i64s []) := by rw [hwz]; exact own_empty w2x (w.heap.size + 2) w2x.heap.size rfl hwo
             have hbW : w.heap.size + 2 ≤ w2x.heap.size := hwo
             clear hwo
             generalize w2x.heap.size = gW at hownW hbW dPW dTW ⊢
             clear hHeld hbA hwz
             have hHeld := hHa
             clear hHa
             refine wpAnyH_take (i := 2) (oi := ?_) (v := ?_) ?_ (by kernel_rfl) (by kernel_rfl) (by kernel_rfl) ?_ (Or.inl ⟨?_, ?_⟩) (by assumption) ?_
             rotate_left 2
             · simp only [List.getElem?_toArray, List.getElem?_cons_zero, List.getElem?_cons_succ]; rfl
             · exact fun _ _ _ h => h
             · rfl
             · intro wq hSw
               obtain ⟨hx0, hx1, hw⟩ := hSw
               go_simp
               (try with_reducible rfl)
             (try simp only [Act.put, List.setIfInBounds_toArray, List.set_cons_zero, List.set_cons_succ])
             rotate_left 1
             refine AllReadyH.cons (i := 4) (o := ?_) ?_ (fun K9 hK9 => ?_) ?_
             rotate_left 1
             · simp only [List.getElem?_toArray, List.getElem?_cons_zero, List.getElem?_cons_succ]; rfl
             go_simp
             refine (HDp.out _ (h.below hw)).mono ?_
             rintro e1 w3x ⟨AD, cD, rfl, hoD, hb⟩
             obtain ⟨gD, rfl, hgD, hrD⟩ := hoD.pos HDL1.out
             clear hoD
             have dDP : gD ≠ gP := by have := (show gP < w2x.heap.size from (hownP.lt gP rfl).2); omega
             have dDT : gD ≠ gT := by have := hT.lt; omega
             have hbD : w.heap.size + 2 ≤ gD := Nat.le_trans hRs.lt hgD
             replace hx0 := keep_cell hb hx0
             replace hx1 := keep_cell hb hx1
             replace hRs := hRs.below hb
             replace hownP := own_below hownP hb
             replace hT := hT.below hb
             replace hw := keep_below hb hw
             clear hHeld
             go_wp2_with fail
             refine hK9.out _ _ ⟨hx0, hx1, hw⟩ (fun hHeld => ?_)
             clear hK9 K9 hb
             (try simp only [Act.put, List.setIfInBounds_toArray, List.set_cons_zero, List.set_cons_succ])
             rotate_left 1
             exact AllReadyH.nil)
          | (refine wpAnyH_ready (rs := [0, 6, 7]) (by kernel_rfl) (by simp) ?_
             refine AllReadyH.cons (i := 0) (o := ?_) ?_ (fun K9 hK9 => ?_) ?_
             rotate_left 1
             · simp only [List.getElem?_toArray, List.getElem?_cons_zero]; rfl
             go_simp
             clear hHeld
             refine hK9.out _ _ ⟨keep_cell ((Below.refl w2x.heap.size w2x).alloc (Nat.le_refl _) _) hx0, keep_cell ((Below.refl w2x.heap.size w2x).alloc (Nat.le_refl _) _) hx1, keep_below_alloc hw _⟩ (fun hHeld => ?_)
             clear hK9 K9
             (try simp only [Act.put, List.setIfInBounds_toArray, List.set_cons_zero, List.set_cons_succ])
             refine wpAnyH_name hHeld (fun w3x hHa hwz => ?_)
             have hbA : Below w2x.heap.size w2x w3x := by rw [hwz]; exact (Below.refl w2x.heap.size w2x).alloc (Nat.le_refl _) _
             have hwo : w.heap.size + 2 ≤ w2x.heap.size := hRs.lt
             have dPW : w2x.heap.size ≠ gW := by have := (show gW < w2x.heap.size from (hownW.lt gW rfl).2); omega
             have dDP : gD ≠ w2x.heap.size := by have := hrD.lt; omega
             replace hx0 := keep_cell hbA hx0
             replace hx1 := keep_cell hbA hx1
             replace hRs := hRs.below hbA
             replace hownW := own_below hownW hbA
             replace hrD := hrD.below hbA
             replace hw := keep_below hbA hw
             have hownP : w3x.ownsRow (w.heap.size + 2) 3 1 (.slice (some ⟨w2x.heap.size, 0, none⟩) 0 0) 0 (i64s []) := by rw [hwz]; exact own_empty w2x (w.heap.size + 2) w2x.heap.size rfl hwo
             have hbP : w.heap.size + 2 ≤ w2x.heap.size := hwo
             clear hwo
             generalize w2x.heap.size = gP at hownP hbP dPW dDP ⊢
             clear hHeld hbA hwz
             have hHeld := hHa
             clear hHa
             refine wpAnyH_take (i := 2) (oi := ?_) (v := ?_) ?_ (by kernel_rfl) (by kernel_rfl) (by kernel_rfl) ?_ (Or.inl ⟨?_, ?_⟩) (by assumption) ?_
             rotate_left 2
             · simp only [List.getElem?_toArray, List.getElem?_cons_zero, List.getElem?_cons_succ]; rfl
             · exact fun _ _ _ h => h
             · rfl
             · intro wq hSw
               obtain ⟨hx0, hx1, hw⟩ := hSw
               go_simp
               (try with_reducible rfl)
             (try simp only [Act.put, List.setIfInBounds_toArray, List.set_cons_zero, List.set_cons_succ])
             rotate_left 1
             refine AllReadyH.cons (i := 6) (o := ?_) ?_ (fun K9 hK9 => ?_) ?_
             rotate_left 1
             · simp only [List.getElem?_toArray, List.getElem?_cons_zero, List.getElem?_cons_succ]; rfl
             go_simp
             refine (HSu.out _ (h.below hw) (k.below hw)).mono ?_
             rintro e1 w3x ⟨AS, cS, rfl, hoS, hb⟩
             obtain ⟨gS, rfl, hgS, hrS⟩ := hoS.pos HSL1.out
             clear hoS
             have dSW : gS ≠ gW := by have := (show gW < w2x.heap.size from (hownW.lt gW rfl).2); omega
             have dDS : gD ≠ gS := by have := hrD.lt; omega
             have hbS : w.heap.size + 2 ≤ gS := Nat.le_trans hRs.lt hgS
             replace hx0 := keep_cell hb hx0
             replace hx1 := keep_cell hb hx1
             replace hRs := hRs.below hb
             replace hownW := own_below hownW hb
             replace hrD := hrD.below hb
             replace hw := keep_below hb hw
             clear hHeld
             go_wp2_with fail
             refine hK9.out _ _ ⟨hx0, hx1, hw⟩ (fun hHeld => ?_)
             clear hK9 K9 hb
             (try simp only [Act.put, List.setIfInBounds_toArray, List.set_cons_zero, List.set_cons_succ])
             rotate_left 1
             refine AllReadyH.cons (i := 7) (o := ?_) ?_ (fun K9 hK9 => ?_) ?_
             rotate_left 1
             · simp only [List.getElem?_toArray, List.getElem?_cons_zero, List.getElem?_cons_succ]; rfl
             go_simp
             clear hHeld
             refine hK9.out _ _ ⟨keep_cell ((Below.refl w2x.heap.size w2x).alloc (Nat.le_refl _) _) hx0, keep_cell ((Below.refl w2x.heap.size w2x).alloc (Nat.le_refl _) _) hx1, keep_below_alloc hw _⟩ (fun hHeld => ?_)
             clear hK9 K9
             (try simp only [Act.put, List.setIfInBounds_toArray, List.set_cons_zero, List.set_cons_succ])
             refine wpAnyH_name hHeld (fun w3x hHa hwz => ?_)
             have hbA : Below w2x.heap.size w2x w3x := by rw [hwz]; exact (Below.refl w2x.heap.size w2x).alloc (Nat.le_refl _) _
             have hwo : w.heap.size + 2 ≤ w2x.heap.size := hRs.lt
             have dTW : w2x.heap.size ≠ gW := by have := (show gW < w2x.heap.size from (hownW.lt gW rfl).2); omega
             have dDT : gD ≠ w2x.heap.size := by have := hrD.lt; omega
             replace hx0 := keep_cell hbA hx0
             replace hx1 := keep_cell hbA hx1
             replace hRs := hRs.below hbA
             replace hownW := own_below hownW hbA
             replace hrD := hrD.below hbA
             replace hw := keep_below hbA hw
             have hT : BlkT w3x w2x.heap.size (.slice none 0 0) (.slice none 0 0) := by rw [hwz]; exact BlkT.new w2x _ _ rfl
             have hbT : w.heap.size + 2 ≤ w2x.heap.size := hwo
             clear hwo
             generalize w2x.heap.size = gT at hT hbT dTW dDT ⊢
             clear hHeld hbA hwz
             have hHeld := hHa
             clear hHa
             rotate_left 1
             exact AllReadyH.nil)
          | (refine wpAnyH_ready (rs := [0, 4]) (by kernel_rfl) (by simp) ?_
             refine AllReadyH.cons (i := 0) (o := ?_) ?_ (fun K9 hK9 => ?_) ?_
             rotate_left 1
             · simp only [List.getElem?_toArray, List.getElem?_cons_zero]; rfl
             go_simp
             clear hHeld
             refine hK9.out _ _ ⟨keep_cell ((Below.refl w2x.heap.size w2x).alloc (Nat.le_refl _) _) hx0, keep_cell ((Below.refl w2x.heap.size w2x).alloc (Nat.le_refl _) _) hx1, keep_below_alloc hw _⟩ (fun hHeld => ?_)
             clear hK9 K9
             (try simp only [Act.put, List.setIfInBounds_toArray, List.set_cons_zero, List.set_cons_succ])
             refine wpAnyH_name hHeld (fun w3x hHa hwz => ?_)
             have hbA : Below w2x.heap.size w2x w3x := by rw [hwz]; exact (Below.refl w2x.heap.size w2x).alloc (Nat.le_refl _) _
             have hwo : w.heap.size + 2 ≤ w2x.heap.size := hRs.lt
             have dPW : w2x.heap.size ≠ gW := by have := (show gW < w2x.heap.size from (hownW.lt gW rfl).2); omega
             have dPT : w2x.heap.size ≠ gT := by have := hT.lt; omega
             replace hx0 := keep_cell hbA hx0
             replace hx1 := keep_cell hbA hx1
             replace hRs := hRs.below hbA
             replace hownW := own_below hownW hbA
             replace hT := hT.below hbA
             replace hw := keep_below hbA hw
             have hownP : w3x.ownsRow (w.heap.size + 2) 3 1 (.slice (some ⟨w2x.heap.size, 0, none⟩) 0 0) 0 (i64s []) := by rw [hwz]; exact own_empty w2x (w.heap.size + 2) w2x.heap.size rfl hwo
             have hbP : w.heap.size + 2 ≤ w2x.heap.size := hwo
             clear hwo
             generalize w2x.heap.size = gP at hownP hbP dPW dPT ⊢
             clear hHeld hbA hwz
             have hHeld := hHa
             clear hHa
             refine wpAnyH_take (i := 2) (oi := ?_) (v := ?_) ?_ (by kernel_rfl) (by kernel_rfl) (by kernel_rfl) ?_ (Or.inl ⟨?_, ?_⟩) (by assumption) ?_
             rotate_left 2
             · simp only [List.getElem?_toArray, List.getElem?_cons_zero, List.getElem?_cons_succ]; rfl
             · exact fun _ _ _ h => h
             · rfl
             · intro wq hSw
               obtain ⟨hx0, hx1, hw⟩ := hSw
               go_simp
               (try with_reducible rfl)
             (try simp only [Act.put, List.setIfInBounds_toArray, List.set_cons_zero, List.set_cons_succ])
             rotate_left 1
             refine AllReadyH.cons (i := 4) (o := ?_) ?_ (fun K9 hK9 => ?_) ?_
             rotate_left 1
             · simp only [List.getElem?_toArray, List.getElem?_cons_zero, List.getElem?_cons_succ]; rfl
             go_simp
             refine (HDp.out _ (h.below hw)).mono ?_
             rintro e1 w3x ⟨AD, cD, rfl, hoD, hb⟩
             obtain ⟨gD, rfl, hgD, hrD⟩ := hoD.pos HDL1.out
             clear hoD
             have dDW : gD ≠ gW := by have := (show gW < w2x.heap.size from (hownW.lt gW rfl).2); omega
             have dDT : gD ≠ gT := by have := hT.lt; omega
             have hbD : w.heap.size + 2 ≤ gD := Nat.le_trans hRs.lt hgD
             replace hx0 := keep_cell hb hx0
             replace hx1 := keep_cell hb hx1
             replace hRs := hRs.below hb
             replace hownW := own_below hownW hb
             replace hT := hT.below hb
             replace hw := keep_below hb hw
             clear hHeld
             go_wp2_with fail
             refine hK9.out _ _ ⟨hx0, hx1, hw⟩ (fun hHeld => ?_)
             clear hK9 K9 hb
             (try simp only [Act.put, List.setIfInBounds_toArray, List.set_cons_zero, List.set_cons_succ])
             rotate_left 1
             exact AllReadyH.nil)
          | (refine wpAnyH_ready (rs := [0, 1, 7]) (by kernel_rfl) (by simp) ?_
             refine AllReadyH.cons (i := 0) (o := ?_) ?_ (fun K9 hK9 => ?_) ?_
             rotate_left 1
             · simp only [List.getElem?_toArray, List.getElem?_cons_zero]; rfl
             go_simp
             clear hHeld
             refine hK9.out _ _ ⟨keep_cell ((Below.refl w2x.heap.size w2x).alloc (Nat.le_refl _) _) hx0, keep_cell ((Below.refl w2x.heap.size w2x).alloc (Nat.le_refl _) _) hx1, keep_below_alloc hw _⟩ (fun hHeld => ?_)
             clear hK9 K9
             (try simp only [Act.put, List.setIfInBounds_toArray, List.set_cons_zero, List.set_cons_succ])
             refine wpAnyH_name hHeld (fun w3x hHa hwz => ?_)
             have hbA : Below w2x.heap.size w2x w3x := by rw [hwz]; exact (Below.refl w2x.heap.size w2x).alloc (Nat.le_refl _) _
             have hwo : w.heap.size + 2 ≤ w2x.heap.size := hRs.lt
             have dDP : gD ≠ w2x.heap.size := by have := hrD.lt; omega
             have dPS : w2x.heap.size ≠ gS := by have := hrS.lt; omega
             replace hx0 := keep_cell hbA hx0
             replace hx1 := keep_cell hbA hx1
             replace hRs := hRs.below hbA
             replace hrD := hrD.below hbA
             replace hrS := hrS.below hbA
             replace hw := keep_below hbA hw
             have hownP : w3x.ownsRow (w.heap.size + 2) 3 1 (.slice (some ⟨w2x.heap.size, 0, none⟩) 0 0) 0 (i64s []) := by rw [hwz]; exact own_empty w2x (w.heap.size + 2) w2x.heap.size rfl hwo
             have hbP : w.heap.size + 2 ≤ w2x.heap.size := hwo
             clear hwo
             generalize w2x.heap.size = gP at hownP hbP dDP dPS ⊢
             clear hHeld hbA hwz
             have hHeld := hHa
             clear hHa
             rotate_left 1
             refine AllReadyH.cons (i := 1) (o := ?_) ?_ (fun K9 hK9 => ?_) ?_
             rotate_left 1
             · simp only [List.getElem?_toArray, List.getElem?_cons_zero, List.getElem?_cons_succ]; rfl
             go_simp
             clear hHeld
             refine hK9.out _ _ ⟨keep_cell ((Below.refl w2x.heap.size w2x).alloc (Nat.le_refl _) _) hx0, keep_cell ((Below.refl w2x.heap.size w2x).alloc (Nat.le_refl _) _) hx1, keep_below_alloc hw _⟩ (fun hHeld => ?_)
             clear hK9 K9
             (try simp only [Act.put, List.setIfInBounds_toArray, List.set_cons_zero, List.set_cons_succ])
             refine wpAnyH_name hHeld (fun w3x hHa hwz => ?_)
             have hbA : Below w2x.heap.size w2x w3x := by rw [hwz]; exact (Below.refl w2x.heap.size w2x).alloc (Nat.le_refl _) _
             have hwo : w.heap.size + 2 ≤ w2x.heap.size := hRs.lt
             have dDW : gD ≠ w2x.heap.size := by have := hrD.lt; omega
             have dSW : gS ≠ w2x.heap.size := by have := hrS.lt; omega
             replace hx0 := keep_cell hbA hx0
             replace hx1 := keep_cell hbA hx1
             replace hRs := hRs.below hbA
             replace hrD := hrD.below hbA
             replace hrS := hrS.below hbA
             replace hw := keep_below hbA hw
             have hownW : w3x.ownsRow (w.heap.size + 2) 3 1 (.slice (some ⟨w2x.heap.size, 0, none⟩) 0 0) 0 (i64s []) := by rw [hwz]; exact own_empty w2x (w.heap.size + 2) w2x.heap.size rfl hwo
             have hbW : w.heap.size + 2 ≤ w2x.heap.size := hwo
             clear hwo
             generalize w2x.heap.size = gW at hownW hbW dDW dSW ⊢
             clear hHeld hbA hwz
             have hHeld := hHa
             clear hHa
             rotate_left 1
             refine AllReadyH.cons (i := 7) (o := ?_) ?_ (fun K9 hK9 => ?_) ?_
             rotate_left 1
             · simp only [List.getElem?_toArray, List.getElem?_cons_zero, List.getElem?_cons_succ]; rfl
             go_simp
             clear hHeld
             refine hK9.out _ _ ⟨keep_cell ((Below.refl w2x.heap.size w2x).alloc (Nat.le_refl _) _) hx0, keep_cell ((Below.refl w2x.heap.size w2x).alloc (Nat.le_refl _) _) hx1, keep_below_alloc hw _⟩ (fun hHeld => ?_)
             clear hK9 K9
             (try simp only [Act.put, List.setIfInBounds_toArray, List.set_cons_zero, List.set_cons_succ])
             refine wpAnyH_name hHeld (fun w3x hHa hwz => ?_)
             have hbA : Below w2x.heap.size w2x w3x := by rw [hwz]; exact (Below.refl w2x.heap.size w2x).alloc (Nat.le_refl _) _
             have hwo : w.heap.size + 2 ≤ w2x.heap.size := hRs.lt
             have dDT : gD ≠ w2x.heap.size := by have := hrD.lt; omega
             have dST : gS ≠ w2x.heap.size := by have := hrS.lt; omega
             replace hx0 := keep_cell hbA hx0
             replace hx1 := keep_cell hbA hx1
             replace hRs := hRs.below hbA
             replace hrD := hrD.below hbA
             replace hrS := hrS.below hbA
             replace hw := keep_below hbA hw
             have hT : BlkT w3x w2x.heap.size (.slice none 0 0) (.slice none 0 0) := by rw [hwz]; exact BlkT.new w2x _ _ rfl
             have hbT : w.heap.size + 2 ≤ w2x.heap.size := hwo
             clear hwo
             generalize w2x.heap.size = gT at hT hbT dDT dST ⊢
             clear hHeld hbA hwz
             have hHeld := hHa
             clear hHa
             rotate_left 1
             exact AllReadyH.nil)
          | (refine wpAnyH_ready (rs := [0, 1, 6]) (by kernel_rfl) (by simp) ?_
             refine AllReadyH.cons (i := 0) (o := ?_) ?_ (fun K9 hK9 => ?_) ?_
             rotate_left 1
             · simp only [List.getElem?_toArray, List.getElem?_cons_zero]; rfl
             go_simp
             clear hHeld
             refine hK9.out _ _ ⟨keep_cell ((Below.refl w2x.heap.size w2x).alloc (Nat.le_refl _) _) hx0, keep_cell ((Below.refl w2x.heap.size w2x).alloc (Nat.le_refl _) _) hx1, keep_below_alloc hw _⟩ (fun hHeld => ?_)
             clear hK9 K9
             (try simp only [Act.put, List.setIfInBounds_toArray, List.set_cons_zero, List.set_cons_succ])
             refine wpAnyH_name hHeld (fun w3x hHa hwz => ?_)
             have hbA : Below w2x.heap.size w2x w3x := by rw [hwz]; exact (Below.refl w2x.heap.size w2x).alloc (Nat.le_refl _) _
             have hwo : w.heap.size + 2 ≤ w2x.heap.size := hRs.lt
             have dDP : gD ≠ w2x.heap.size := by have := hrD.lt; omega
             have dPT : w2x.heap.size ≠ gT := by have := hT.lt; omega
             replace hx0 := keep_cell hbA hx0
             replace hx1 := keep_cell hbA hx1
             replace hRs := hRs.below hbA
             replace hrD := hrD.below hbA
             replace hT := hT.below hbA
             replace hw := keep_below hbA hw
             have hownP : w3x.ownsRow (w.heap.size + 2) 3 1 (.slice (some ⟨w2x.heap.size, 0, none⟩) 0 0) 0 (i64s []) := by rw [hwz]; exact own_empty w2x (w.heap.size + 2) w2x.heap.size rfl hwo
             have hbP : w.heap.size + 2 ≤ w2x.heap.size := hwo
             clear hwo
             generalize w2x.heap.size = gP at hownP hbP dDP dPT ⊢
             clear hHeld hbA hwz
             have hHeld := hHa
             clear hHa
             rotate_left 1
             refine AllReadyH.cons (i := 1) (o := ?_) ?_ (fun K9 hK9 => ?_) ?_
             rotate_left 1
             · simp only [List.getElem?_toArray, List.getElem?_cons_zero, List.getElem?_cons_succ]; rfl
             go_simp
             clear hHeld
             refine hK9.out _ _ ⟨keep_cell ((Below.refl w2x.heap.size w2x).alloc (Nat.le_refl _) _) hx0, keep_cell ((Below.refl w2x.heap.size w2x).alloc (Nat.le_refl _) _) hx1, keep_below_alloc hw _⟩ (fun hHeld => ?_)
             clear hK9 K9
             (try simp only [Act.put, List.setIfInBounds_toArray, List.set_cons_zero, List.set_cons_succ])
             refine wpAnyH_name hHeld (fun w3x hHa hwz => ?_)
             have hbA : Below w2x.heap.size w2x w3x := by rw [hwz]; exact (Below.refl w2x.heap.size w2x).alloc (Nat.le_refl _) _
             have hwo : w.heap.size + 2 ≤ w2x.heap.size := hRs.lt
             have dDW : gD ≠ w2x.heap.size := by have := hrD.lt; omega
             have dTW : gT ≠ w2x.heap.size := by have := hT.lt; omega
             replace hx0 := keep_cell hbA hx0
             replace hx1 := keep_cell hbA hx1
             replace hRs := hRs.below hbA
             replace hrD := hrD.below hbA
             replace hT := hT.below hbA
             replace hw := keep_below hbA hw
             have hownW : w3x.ownsRow (w.heap.size + 2) 3 1 (.slice (some ⟨w2x.heap.size, 0, none⟩) 0 0) 0 (i64s []) := by rw [hwz]; exact own_empty w2x (w.heap.size + 2) w2x.heap.size rfl hwo
             have hbW : w.heap.size + 2 ≤ w2x.heap.size := hwo
             clear hwo
             generalize w2x.heap.size = gW at hownW hbW dDW dTW ⊢
             clear hHeld hbA hwz
             have hHeld := hHa
             clear hHa
             rotate_left 1
             refine AllReadyH.cons (i := 6) (o := ?_) ?_ (fun K9 hK9 => ?_) ?_
             rotate_left 1
             · simp only [List.getElem?_toArray, List.getElem?_cons_zero, List.getElem?_cons_succ]; rfl
             go_simp
             refine (HSu.out _ (h.below hw) (k.below hw)).mono ?_
             rintro e1 w3x ⟨AS, cS, rfl, hoS, hb⟩
             obtain ⟨gS, rfl, hgS, hrS⟩ := hoS.pos HSL1.out
             clear hoS
             have dDS : gD ≠ gS := by have := hrD.lt; omega
             have dST : gS ≠ gT := by have := hT.lt; omega
             have hbS : w.heap.size + 2 ≤ gS := Nat.le_trans hRs.lt hgS
             replace hx0 := keep_cell hb hx0
             replace hx1 := keep_cell hb hx1
             replace hRs := hRs.below hb
             replace hrD := hrD.below hb
             replace hT := hT.below hb
             replace hw := keep_below hb hw
             clear hHeld
             go_wp2_with fail
             refine hK9.out _ _ ⟨hx0, hx1, hw⟩ (fun hHeld => ?_)
             clear hK9 K9 hb
             (try simp only [Act.put, List.setIfInBounds_toArray, List.set_cons_zero, List.set_cons_succ])
             rotate_left 1
             exact AllReadyH.nil)
        all_goals
          first
          | (refine wpAnyH_ready (rs := [6, 7]) (by kernel_rfl) (by simp) ?_
             refine AllReadyH.cons (i := 6) (o := ?_) ?_ (fun K9 hK9 => ?_) ?_
             rotate_left 1
             · simp only [List.getElem?_toArray, List.getElem?_cons_zero, List.getElem?_cons_succ]; rfl
             go_simp
             refine (HSu.out _ (h.below hw) (k.below hw)).mono ?_
             rintro e1 w4x ⟨AS, cS, rfl, hoS, hb⟩
             obtain ⟨gS, rfl, hgS, hrS⟩ := hoS.pos HSL1.out
             clear hoS
             have dPS : gP ≠ gS := by have := (show gP < w3x.heap.size from (hownP.lt gP rfl).2); omega
             have dSW : gS ≠ gW := by have := (show gW < w3x.heap.size from (hownW.lt gW rfl).2); omega
             have dDS : gD ≠ gS := by have := hrD.lt; omega
             have hbS : w.heap.size + 2 ≤ gS := Nat.le_trans hRs.lt hgS
             replace hx0 := keep_cell hb hx0
             replace hx1 := keep_cell hb hx1
             replace hRs := hRs.below hb
             replace hownP := own_below hownP hb
             replace hownW := own_below hownW hb
             replace hrD := hrD.below hb
             replace hw := keep_below hb hw
             clear hHeld
             go_wp2_with fail
             refine hK9.out _ _ ⟨hx0, hx1, hw⟩ (fun hHeld => ?_)
             clear hK9 K9 hb
             (try simp only [Act.put, List.setIfInBounds_toArray, List.set_cons_zero, List.set_cons_succ])
             rotate_left 1
             refine AllReadyH.cons (i := 7) (o := ?_) ?_ (fun K9 hK9 => ?_) ?_
             rotate_left 1
             · simp only [List.getElem?_toArray, List.getElem?_cons_zero, List.getElem?_cons_succ]; rfl
             go_simp
             clear hHeld
             refine hK9.out _ _ ⟨keep_cell ((Below.refl w3x.heap.size w3x).alloc (Nat.le_refl _) _) hx0, keep_cell ((Below.refl w3x.heap.size w3x).alloc (Nat.le_refl _) _) hx1, keep_below_alloc hw _⟩ (fun hHeld => ?_)
             clear hK9 K9
             (try simp only [Act.put, List.setIfInBounds_toArray, List.set_cons_zero, List.set_cons_succ])
             refine wpAnyH_name hHeld (fun w4x hHa hwz => ?_)
             have hbA : Below w3x.heap.size w3x w4x := by rw [hwz]; exact (Below.refl w3x.heap.size w3x).alloc (Nat.le_refl _) _
             have hwo : w.heap.size + 2 ≤ w3x.heap.size := hRs.lt
             have dPT : gP ≠ w3x.heap.size := by have := (show gP < w3x.heap.size from (hownP.lt gP rfl).2); omega
             have dTW : w3x.heap.size ≠ gW := by have := (show gW < w3x.heap.size from (hownW.lt gW rfl).2); omega
             have dDT : gD ≠ w3x.heap.size := by have := hrD.lt; omega
             replace hx0 := keep_cell hbA hx0
             replace hx1 := keep_cell hbA hx1
             replace hRs := hRs.below hbA
             replace hownP := own_below hownP hbA
             replace hownW := own_below hownW hbA
             replace hrD := hrD.below hbA
             replace hw := keep_below hbA hw
             have hT : BlkT w4x w3x.heap.size (.slice none 0 0) (.slice none 0 0) := by rw [hwz]; exact BlkT.new w3x _ _ rfl
             have hbT : w.heap.size + 2 ≤ w3x.heap.size := hwo
             clear hwo
             generalize w3x.heap.size = gT at hT hbT dPT dTW dDT ⊢
             clear hHeld hbA hwz
             have hHeld := hHa
             clear hHa
             rotate_left 1
             exact AllReadyH.nil)
          | (refine wpAnyH_ready (rs := [4]) (by kernel_rfl) (by simp) ?_
             refine AllReadyH.cons (i := 4) (o := ?_) ?_ (fun K9 hK9 => ?_) ?_
             rotate_left 1
             · simp only [List.getElem?_toArray, List.getElem?_cons_zero, List.getElem?_cons_succ]; rfl
             go_simp
             refine (HDp.out _ (h.below hw)).mono ?_
             rintro e1 w4x ⟨AD, cD, rfl, hoD, hb⟩
             obtain ⟨gD, rfl, hgD, hrD⟩ := hoD.pos HDL1.out
             clear hoD
             have dDP : gD ≠ gP := by have := (show gP < w3x.heap.size from (hownP.lt gP rfl).2); omega
             have dDW : gD ≠ gW := by have := (show gW < w3x.heap.size from (hownW.lt gW rfl).2); omega
             have dDT : gD ≠ gT := by have := hT.lt; omega
             have hbD : w.heap.size + 2 ≤ gD := Nat.le_trans hRs.lt hgD
             replace hx0 := keep_cell hb hx0
             replace hx1 := keep_cell hb hx1
             replace hRs := hRs.below hb
             replace hownP := own_below hownP hb
             replace hownW := own_below hownW hb
             replace hT := hT.below hb
             replace hw := keep_below hb hw
             clear hHeld
             go_wp2_with fail
             refine hK9.out _ _ ⟨hx0, hx1, hw⟩ (fun hHeld => ?_)
             clear hK9 K9 hb
             (try simp only [Act.put, List.setIfInBounds_toArray, List.set_cons_zero, List.set_cons_succ])
             rotate_left 1
             exact AllReadyH.nil)
          | (refine wpAnyH_ready (rs := [1, 7]) (by kernel_rfl) (by simp) ?_
             refine AllReadyH.cons (i := 1) (o := ?_) ?_ (fun K9 hK9 => ?_) ?_
             rotate_left 1
             · simp only [List.getElem?_toArray, List.getElem?_cons_zero, List.getElem?_cons_succ]; rfl
             go_simp
             clear hHeld
             refine hK9.out _ _ ⟨keep_cell ((Below.refl w3x.heap.size w3x).alloc (Nat.le_refl _) _) hx0, keep_cell ((Below.refl w3x.heap.size w3x).alloc (Nat.le_refl _) _) hx1, keep_below_alloc hw _⟩ (fun hHeld => ?_)
             clear hK9 K9
             (try simp only [Act.put, List.setIfInBounds_toArray, List.set_cons_zero, List.set_cons_succ])
             refine wpAnyH_name hHeld (fun w4x hHa hwz => ?_)
             have hbA : Below w3x.heap.size w3x w4x := by rw [hwz]; exact (Below.refl w3x.heap.size w3x).alloc (Nat.le_refl _) _
             have hwo : w.heap.size + 2 ≤ w3x.heap.size := hRs.lt
             have dPW : gP ≠ w3x.heap.size := by have := (show gP < w3x.heap.size from (hownP.lt gP rfl).2); omega
             have dDW : gD ≠ w3x.heap.size := by have := hrD.lt; omega
             have dSW : gS ≠ w3x.heap.size := by have := hrS.lt; omega
             replace hx0 := keep_cell hbA hx0
             replace hx1 := keep_cell hbA hx1
             replace hRs := hRs.below hbA
             replace hownP := own_below hownP hbA
             replace hrD := hrD.below hbA
             replace hrS := hrS.below hbA
             replace hw := keep_below hbA hw
             have hownW : w4x.ownsRow (w.heap.size + 2) 3 1 (.slice (some ⟨w3x.heap.size, 0, none⟩) 0 0) 0 (i64s []) := by rw [hwz]; exact own_empty w3x (w.heap.size + 2) w3x.heap.size rfl hwo
             have hbW : w.heap.size + 2 ≤ w3x.heap.size := hwo
             clear hwo
             generalize w3x.heap.size = gW at hownW hbW dPW dDW dSW ⊢
             clear hHeld hbA hwz
             have hHeld := hHa
             clear hHa
             refine wpAnyH_take (i := 2) (oi := ?_) (v := ?_) ?_ (by kernel_rfl) (by kernel_rfl) (by kernel_rfl) ?_ (Or.inl ⟨?_, ?_⟩) (by assumption) ?_
             rotate_left 2
             · simp only [List.getElem?_toArray, List.getElem?_cons_zero, List.getElem?_cons_succ]; rfl
             · exact fun _ _ _ h => h
             · rfl
             · intro wq hSw
               obtain ⟨hx0, hx1, hw⟩ := hSw
               go_simp
               (try with_reducible rfl)
             (try simp only [Act.put, List.setIfInBounds_toArray, List.set_cons_zero, List.set_cons_succ])
             rotate_left 1
             refine AllReadyH.cons (i := 7) (o := ?_) ?_ (fun K9 hK9 => ?_) ?_
             rotate_left 1
             · simp only [List.getElem?_toArray, List.getElem?_cons_zero, List.getElem?_cons_succ]; rfl
             go_simp
             clear hHeld
             refine hK9.out _ _ ⟨keep_cell ((Below.refl w3x.heap.size w3x).alloc (Nat.le_refl _) _) hx0, keep_cell ((Below.refl w3x.heap.size w3x).alloc (Nat.le_refl _) _) hx1, keep_below_alloc hw _⟩ (fun hHeld => ?_)
             clear hK9 K9
             (try simp only [Act.put, List.setIfInBounds_toArray, List.set_cons_zero, List.set_cons_succ])
             refine wpAnyH_name hHeld (fun w4x hHa hwz => ?_)
             have hbA : Below w3x.heap.size w3x w4x := by rw [hwz]; exact (Below.refl w3x.heap.size w3x).alloc (Nat.le_refl _) _
             have hwo : w.heap.size + 2 ≤ w3x.heap.size := hRs.lt
             have dPT : gP ≠ w3x.heap.size := by have := (show gP < w3x.heap.size from (hownP.lt gP rfl).2); omega
             have dDT : gD ≠ w3x.heap.size := by have := hrD.lt; omega
             have dST : gS ≠ w3x.heap.size := by have := hrS.lt; omega
             replace hx0 := keep_cell hbA hx0
             replace hx1 := keep_cell hbA hx1
             replace hRs := hRs.below hbA
             replace hownP := own_below hownP hbA
             replace hrD := hrD.below hbA
             replace hrS := hrS.below hbA
             replace hw := keep_below hbA hw
             have hT : BlkT w4x w3x.heap.size (.slice none 0 0) (.slice none 0 0) := by rw [hwz]; exact BlkT.new w3x _ _ rfl
             have hbT : w.heap.size + 2 ≤ w3x.heap.size := hwo
             clear hwo
             generalize w3x.heap.size = gT at hT hbT dPT dDT dST ⊢
             clear hHeld hbA hwz
             have hHeld := hHa
             clear hHa
             rotate_left 1
             exact AllReadyH.nil)
          | (refine wpAnyH_ready (rs := [1, 6]) (by kernel_rfl) (by simp) ?_
             refine AllReadyH.cons (i := 1) (o := ?_) ?_ (fun K9 hK9 => ?_) ?_
             rotate_left 1
             · simp only [List.getElem?_toArray, List.getElem?_cons_zero, List.getElem?_cons_succ]; rfl
             go_simp
             clear hHeld
             refine hK9.out _ _ ⟨keep_cell ((Below.refl w3x.heap.size w3x).alloc (Nat.le_refl _) _) hx0, keep_cell ((Below.refl w3x.heap.size w3x).alloc (Nat.le_refl _) _) hx1, keep_below_alloc hw _⟩ (fun hHeld => ?_)
             clear hK9 K9
             (try simp only [Act.put, List.setIfInBounds_toArray, List.set_cons_zero, List.set_cons_succ])
             refine wpAnyH_name hHeld (fun w4x hHa hwz => ?_)
             have hbA : Below w3x.heap.size w3x w4x := by rw [hwz]; exact (Below.refl w3x.heap.size w3x).alloc (Nat.le_refl _) _
             have hwo : w.heap.size + 2 ≤ w3x.heap.size := hRs.lt
             have dPW : gP ≠ w3x.heap.size := by have := (show gP < w3x.heap.size from (hownP.lt gP rfl).2); omega
             have dDW : gD ≠ w3x.heap.size := by have := hrD.lt; omega
             have dTW : gT ≠ w3x.heap.size := by have := hT.lt; omega
             replace hx0 := keep_cell hbA hx0
             replace hx1 := keep_cell hbA hx1
             replace hRs := hRs.below hbA
             replace hownP := own_below hownP hbA
             replace hrD := hrD.below hbA
             replace hT := hT.below hbA
             replace hw := keep_below hbA hw
             have hownW : w4x.ownsRow (w.heap.size + 2) 3 1 (.slice (some ⟨w3x.heap.size, 0, none⟩) 0 0) 0 (i64s []) := by rw [hwz]; exact own_empty w3x (w.heap.size + 2) w3x.heap.size rfl hwo
             have hbW : w.heap.size + 2 ≤ w3x.heap.size := hwo
             clear hwo
             generalize w3x.heap.size = gW at hownW hbW dPW dDW dTW ⊢
             clear hHeld hbA hwz
             have hHeld := hHa
             clear hHa
             refine wpAnyH_take (i := 2) (oi := ?_) (v := ?_) ?_ (by kernel_rfl) (by kernel_rfl) (by kernel_rfl) ?_ (Or.inl ⟨?_, ?_⟩) (by assumption) ?_
             rotate_left 2
             · simp only [List.getElem?_toArray, List.getElem?_cons_zero, List.getElem?_cons_succ]; rfl
             · exact fun _ _ _ h => h
             · rfl
             · intro wq hSw
               obtain ⟨hx0, hx1, hw⟩ := hSw
               go_simp
               (try with_reducible rfl)
             (try simp only [Act.put, List.setIfInBounds_toArray, List.set_cons_zero, List.set_cons_succ])
             rotate_left 1
             refine AllReadyH.cons (i := 6) (o := ?_) ?_ (fun K9 hK9 => ?_) ?_
             rotate_left 1
             · simp only [List.getElem?_toArray, List.getElem?_cons_zero, List.getElem?_cons_succ]; rfl
             go_simp
             refine (HSu.out _ (h.below hw) (k.below hw)).mono ?_
             rintro e1 w4x ⟨AS, cS, rfl, hoS, hb⟩
             obtain ⟨gS, rfl, hgS, hrS⟩ := hoS.pos HSL1.out
             clear hoS
             have dPS : gP ≠ gS := by have := (show gP < w3x.heap.size from (hownP.lt gP rfl).2); omega
             have dDS : gD ≠ gS := by have := hrD.lt; omega
             have dST : gS ≠ gT := by have := hT.lt; omega
             have hbS : w.heap.size + 2 ≤ gS := Nat.le_trans hRs.lt hgS
             replace hx0 := keep_cell hb hx0
             replace hx1 := keep_cell hb hx1
             replace hRs := hRs.below hb
             replace hownP := own_below hownP hb
             replace hrD := hrD.below hb
             replace hT := hT.below hb
             replace hw := keep_below hb hw
             clear hHeld
             go_wp2_with fail
             refine hK9.out _ _ ⟨hx0, hx1, hw⟩ (fun hHeld => ?_)
             clear hK9 K9 hb
             (try simp only [Act.put, List.setIfInBounds_toArray, List.set_cons_zero, List.set_cons_succ])
             rotate_left 1
             exact AllReadyH.nil)
          | (refine wpAnyH_ready (rs := [0, 7]) (by kernel_rfl) (by simp) ?_
             refine AllReadyH.cons (i := 0) (o := ?_) ?_ (fun K9 hK9 => ?_) ?_
             rotate_left 1
             · simp only [List.getElem?_toArray, List.getElem?_cons_zero]; rfl
             go_simp
             clear hHeld
             refine hK9.out _ _ ⟨keep_cell ((Below.refl w3x.heap.size w3x).alloc (Nat.le_refl _) _) hx0, keep_cell ((Below.refl w3x.heap.size w3x).alloc (Nat.le_refl _) _) hx1, keep_below_alloc hw _⟩ (fun hHeld => ?_)
             clear hK9 K9
             (try simp only [Act.put, List.setIfInBounds_toArray, List.set_cons_zero, List.set_cons_succ])
             refine wpAnyH_name hHeld (fun w4x hHa hwz => ?_)
             have hbA : Below w3x.heap.size w3x w4x := by rw [hwz]; exact (Below.refl w3x.heap.size w3x).alloc (Nat.le_refl _) _
             have hwo : w.heap.size + 2 ≤ w3x.heap.size := hRs.lt
             have dPW : w3x.heap.size ≠ gW := by have := (show gW < w3x.heap.size from (hownW.lt gW rfl).2); omega
             have dDP : gD ≠ w3x.heap.size := by have := hrD.lt; omega
             have dPS : w3x.heap.size ≠ gS := by have := hrS.lt; omega
             replace hx0 := keep_cell hbA hx0
             replace hx1 := keep_cell hbA hx1
             replace hRs := hRs.below hbA
             replace hownW := own_below hownW hbA
             replace hrD := hrD.below hbA
             replace hrS := hrS.below hbA
             replace hw := keep_below hbA hw
             have hownP : w4x.ownsRow (w.heap.size + 2) 3 1 (.slice (some ⟨w3x.heap.size, 0, none⟩) 0 0) 0 (i64s []) := by rw [hwz]; exact own_empty w3x (w.heap.size + 2) w3x.heap.size rfl hwo
             have hbP : w.heap.size + 2 ≤ w3x.heap.size := hwo
             clear hwo
             generalize w3x.heap.size = gP at hownP hbP dPW dDP dPS ⊢
             clear hHeld hbA hwz
             have hHeld := hHa
             clear hHa
             refine wpAnyH_take (i := 2) (oi := ?_) (v := ?_) ?_ (by kernel_rfl) (by kernel_rfl) (by kernel_rfl) ?_ (Or.inl ⟨?_, ?_⟩) (by assumption) ?_
             rotate_left 2
             · simp only [List.getElem?_toArray, List.getElem?_cons_zero, List.getElem?_cons_succ]; rfl
             · exact fun _ _ _ h => h
             · rfl
             · intro wq hSw
               obtain ⟨hx0, hx1, hw⟩ := hSw
               go_simp
               (try with_reducible rfl)
             (try simp only [Act.put, List.setIfInBounds_toArray, List.set_cons_zero, List.set_cons_succ])
             rotate_left 1
             refine AllReadyH.cons (i := 7) (o := ?_) ?_ (fun K9 hK9 => ?_) ?_
             rotate_left 1
             · simp only [List.getElem?_toArray, List.getElem?_cons_zero, List.getElem?_cons_succ]; rfl
             go_simp
             clear hHeld
             refine hK9.out _ _ ⟨keep_cell ((Below.refl w3x.heap.size w3x).alloc (Nat.le_refl _) _) hx0, keep_cell ((Below.refl w3x.heap.size w3x).alloc (Nat.le_refl _) _) hx1, keep_below_alloc hw _⟩ (fun hHeld => ?_)
             clear hK9 K9
             (try simp only [Act.put, List.setIfInBounds_toArray, List.set_cons_zero, List.set_cons_succ])
             refine wpAnyH_name hHeld (fun w4x hHa hwz => ?_)
             have hbA : Below w3x.heap.size w3x w4x := by rw [hwz]; exact (Below.refl w3x.heap.size w3x).alloc (Nat.le_refl _) _
             have hwo : w.heap.size + 2 ≤ w3x.heap.size := hRs.lt
             have dTW : w3x.heap.size ≠ gW := by have := (show gW < w3x.heap.size from (hownW.lt gW rfl).2); omega
             have dDT : gD ≠ w3x.heap.size := by have := hrD.lt; omega
             have dST : gS ≠ w3x.heap.size := by have := hrS.lt; omega
             replace hx0 := keep_cell hbA hx0
             replace hx1 := keep_cell hbA hx1
             replace hRs := hRs.below hbA
             replace hownW := own_below hownW hbA
             replace hrD := hrD.below hbA
             replace hrS := hrS.below hbA
             replace hw := keep_below hbA hw
             have hT : BlkT w4x w3x.heap.size (.slice none 0 0) (.slice none 0 0) := by rw [hwz]; exact BlkT.new w3x _ _ rfl
             have hbT : w.heap.size + 2 ≤ w3x.heap.size := hwo
             clear hwo
             generalize w3x.heap.size = gT at hT hbT dTW dDT dST ⊢
             clear hHeld hbA hwz
             have hHeld := hHa
             clear hHa
             rotate_left 1
             exact AllReadyH.nil)
          | (refine wpAnyH_ready (rs := [0, 6]) (by kernel_rfl) (by simp) ?_
             refine AllReadyH.cons (i := 0) (o := ?_) ?_ (fun K9 hK9 => ?_) ?_
             rotate_left 1
             · simp only [List.getElem?_toArray, List.getElem?_cons_zero]; rfl
             go_simp
             clear hHeld
             refine hK9.out _ _ ⟨keep_cell ((Below.refl w3x.heap.size w3x).alloc (Nat.le_refl _) _) hx0, keep_cell ((Below.refl w3x.heap.size w3x).alloc (Nat.le_refl _) _) hx1, keep_below_alloc hw _⟩ (fun hHeld => ?_)
             clear hK9 K9
             (try simp only [Act.put, List.setIfInBounds_toArray, List.set_cons_zero, List.set_cons_succ])
             refine wpAnyH_name hHeld (fun w4x hHa hwz => ?_)
             have hbA : Below w3x.heap.size w3x w4x := by rw [hwz]; exact (Below.refl w3x.heap.size w3x).alloc (Nat.le_refl _) _
             have hwo : w.heap.size + 2 ≤ w3x.heap.size := hRs.lt
             have dPW : w3x.heap.size ≠ gW := by have := (show gW < w3x.heap.size from (hownW.lt gW rfl).2); omega
             have dDP : gD ≠ w3x.heap.size := by have := hrD.lt; omega
             have dPT : w3x.heap.size ≠ gT := by have := hT.lt; omega
             replace hx0 := keep_cell hbA hx0
             replace hx1 := keep_cell hbA hx1
             replace hRs := hRs.below hbA
             replace hownW := own_below hownW hbA
             replace hrD := hrD.below hbA
             replace hT := hT.below hbA
             replace hw := keep_below hbA hw
             have hownP : w4x.ownsRow (w.heap.size + 2) 3 1 (.slice (some ⟨w3x.heap.size, 0, none⟩) 0 0) 0 (i64s []) := by rw [hwz]; exact own_empty w3x (w.heap.size + 2) w3x.heap.size rfl hwo
             have hbP : w.heap.size + 2 ≤ w3x.heap.size := hwo
             clear hwo
             generalize w3x.heap.size = gP at hownP hbP dPW dDP dPT ⊢
             clear hHeld hbA hwz
             have hHeld := hHa
             clear hHa
             refine wpAnyH_take (i := 2) (oi := ?_) (v := ?_) ?_ (by kernel_rfl) (by kernel_rfl) (by kernel_rfl) ?_ (Or.inl ⟨?_, ?_⟩) (by assumption) ?_
             rotate_left 2
             · simp only [List.getElem?_toArray, List.getElem?_cons_zero, List.getElem?_cons_succ]; rfl
             · exact fun _ _ _ h => h
             · rfl
             · intro wq hSw
               obtain ⟨hx0, hx1, hw⟩ := hSw
               go_simp
               (try with_reducible rfl)
             (try simp only [Act.put, List.setIfInBounds_toArray, List.set_cons_zero, List.set_cons_succ])
             rotate_left 1
             refine AllReadyH.cons (i := 6) (o := ?_) ?_ (fun K9 hK9 => ?_) ?_
             rotate_left 1
             · simp only [List.getElem?_toArray, List.getElem?_cons_zero, List.getElem?_cons_succ]; rfl
             go_simp
             refine (HSu.out _ (h.below hw) (k.below hw)).mono ?_
             rintro e1 w4x ⟨AS, cS, rfl, hoS, hb⟩
             obtain ⟨gS, rfl, hgS, hrS⟩ := hoS.pos HSL1.out
             clear hoS
             have dSW : gS ≠ gW := by have := (show gW < w3x.heap.size from (hownW.lt gW rfl).2); omega
             have dDS : gD ≠ gS := by have := hrD.lt; omega
             have dST : gS ≠ gT := by have := hT.lt; omega
             have hbS : w.heap.size + 2 ≤ gS := Nat.le_trans hRs.lt hgS
             replace hx0 := keep_cell hb hx0
             replace hx1 := keep_cell hb hx1
             replace hRs := hRs.below hb
             replace hownW := own_below hownW hb
             replace hrD := hrD.below hb
             replace hT := hT.below hb
             replace hw := keep_below hb hw
             clear hHeld
             go_wp2_with fail
             refine hK9.out _ _ ⟨hx0, hx1, hw⟩ (fun hHeld => ?_)
             clear hK9 K9 hb
             (try simp only [Act.put, List.setIfInBounds_toArray, List.set_cons_zero, List.set_cons_succ])
             rotate_left 1
             exact AllReadyH.nil)
          | (refine wpAnyH_ready (rs := [0, 1]) (by kernel_rfl) (by simp) ?_
             refine AllReadyH.cons (i := 0) (o := ?_) ?_ (fun K9 hK9 => ?_) ?_
             rotate_left 1
             · simp only [List.getElem?_toArray, List.getElem?_cons_zero]; rfl
             go_simp
             clear hHeld
             refine hK9.out _ _ ⟨keep_cell ((Below.refl w3x.heap.size w3x).alloc (Nat.le_refl _) _) hx0, keep_cell ((Below.refl w3x.heap.size w3x).alloc (Nat.le_refl _) _) hx1, keep_below_alloc hw _⟩ (fun hHeld => ?_)
             clear hK9 K9
             (try simp only [Act.put, List.setIfInBounds_toArray, List.set_cons_zero, List.set_cons_succ])
             refine wpAnyH_name hHeld (fun w4x hHa hwz => ?_)
             have hbA : Below w3x.heap.size w3x w4x := by rw [hwz]; exact (Below.refl w3x.heap.size w3x).alloc (Nat.le_refl _) _
             have hwo : w.heap.size + 2 ≤ w3x.heap.size := hRs.lt
             have dDP : gD ≠ w3x.heap.size := by have := hrD.lt; omega
             have dPS : w3x.heap.size ≠ gS := by have := hrS.lt; omega
             have dPT : w3x.heap.size ≠ gT := by have := hT.lt; omega
             replace hx0 := keep_cell hbA hx0
             replace hx1 := keep_cell hbA hx1
             replace hRs := hRs.below hbA
             replace hrD := hrD.below hbA
             replace hrS := hrS.below hbA
             replace hT := hT.below hbA
             replace hw := keep_below hbA hw
             have hownP : w4x.ownsRow (w.heap.size + 2) 3 1 (.slice (some ⟨w3x.heap.size, 0, none⟩) 0 0) 0 (i64s []) := by rw [hwz]; exact own_empty w3x (w.heap.size + 2) w3x.heap.size rfl hwo
             have hbP : w.heap.size + 2 ≤ w3x.heap.size := hwo
             clear hwo
             generalize w3x.heap.size = gP at hownP hbP dDP dPS dPT ⊢
             clear hHeld hbA hwz
             have hHeld := hHa
             clear hHa
             rotate_left 1
             refine AllReadyH.cons (i := 1) (o := ?_) ?_ (fun K9 hK9 => ?_) ?_
             rotate_left 1
             · simp only [List.getElem?_toArray, List.getElem?_cons_zero, List.getElem?_cons_succ]; rfl
             go_simp
             clear hHeld
             refine hK9.out _ _ ⟨keep_cell ((Below.refl w3x.heap.size w3x).alloc (Nat.le_refl _) _) hx0, keep_cell ((Below.refl w3x.heap.size w3x).alloc (Nat.le_refl _) _) hx1, keep_below_alloc hw _⟩ (fun hHeld => ?_)
             clear hK9 K9
             (try simp only [Act.put, List.setIfInBounds_toArray, List.set_cons_zero, List.set_cons_succ])
             refine wpAnyH_name hHeld (fun w4x hHa hwz => ?_)
             have hbA : Below w3x.heap.size w3x w4x := by rw [hwz]; exact (Below.refl w3x.heap.size w3x).alloc (Nat.le_refl _) _
             have hwo : w.heap.size + 2 ≤ w3x.heap.size := hRs.lt
             have dDW : gD ≠ w3x.heap.size := by have := hrD.lt; omega
             have dSW : gS ≠ w3x.heap.size := by have := hrS.lt; omega
             have dTW : gT ≠ w3x.heap.size := by have := hT.lt; omega
             replace hx0 := keep_cell hbA hx0
             replace hx1 := keep_cell hbA hx1
             replace hRs := hRs.below hbA
             replace hrD := hrD.below hbA
             replace hrS := hrS.below hbA
             replace hT := hT.below hbA
             replace hw := keep_below hbA hw
             have hownW : w4x.ownsRow (w.heap.size + 2) 3 1 (.slice (some ⟨w3x.heap.size, 0, none⟩) 0 0) 0 (i64s []) := by rw [hwz]; exact own_empty w3x (w.heap.size + 2) w3x.heap.size rfl hwo
             have hbW : w.heap.size + 2 ≤ w3x.heap.size := hwo
             clear hwo
             generalize w3x.heap.size = gW at hownW hbW dDW dSW dTW ⊢
             clear hHeld hbA hwz
             have hHeld := hHa
             clear hHa
             rotate_left 1
             exact AllReadyH.nil)
        all_goals
          first
          | (refine wpAnyH_ready (rs := [7]) (by kernel_rfl) (by simp) ?_
             refine AllReadyH.cons (i := 7) (o := ?_) ?_ (fun K9 hK9 => ?_) ?_
             rotate_left 1
             · simp only [List.getElem?_toArray, List.getElem?_cons_zero, List.getElem?_cons_succ]; rfl
             go_simp
             clear hHeld
             refine hK9.out _ _ ⟨keep_cell ((Below.refl w4x.heap.size w4x).alloc (Nat.le_refl _) _) hx0, keep_cell ((Below.refl w4x.heap.size w4x).alloc (Nat.le_refl _) _) hx1, keep_below_alloc hw _⟩ (fun hHeld => ?_)
             clear hK9 K9
             (try simp only [Act.put, List.setIfInBounds_toArray, List.set_cons_zero, List.set_cons_succ])
             refine wpAnyH_name hHeld (fun w5x hHa hwz => ?_)
             have hbA : Below w4x.heap.size w4x w5x := by rw [hwz]; exact (Below.refl w4x.heap.size w4x).alloc (Nat.le_refl _) _
             have hwo : w.heap.size + 2 ≤ w4x.heap.size := hRs.lt
             have dPT : gP ≠ w4x.heap.size := by have := (show gP < w4x.heap.size from (hownP.lt gP rfl).2); omega
             have dTW : w4x.heap.size ≠ gW := by have := (show gW < w4x.heap.size from (hownW.lt gW rfl).2); omega
             have dDT : gD ≠ w4x.heap.size := by have := hrD.lt; omega
             have dST : gS ≠ w4x.heap.size := by have := hrS.lt; omega
             replace hx0 := keep_cell hbA hx0
             replace hx1 := keep_cell hbA hx1
             replace hRs := hRs.below hbA
             replace hownP := own_below hownP hbA
             replace hownW := own_below hownW hbA
             replace hrD := hrD.below hbA
             replace hrS := hrS.below hbA
             replace hw := keep_below hbA hw
             have hT : BlkT w5x w4x.heap.size (.slice none 0 0) (.slice none 0 0) := by rw [hwz]; exact BlkT.new w4x _ _ rfl
             have hbT : w.heap.size + 2 ≤ w4x.heap.size := hwo
             clear hwo
             generalize w4x.heap.size = gT at hT hbT dPT dTW dDT dST ⊢
             clear hHeld hbA hwz
             have hHeld := hHa
             clear hHa
             rotate_left 1
             exact AllReadyH.nil)
          | (refine wpAnyH_ready (rs := [6]) (by kernel_rfl) (by simp) ?_
             refine AllReadyH.cons (i := 6) (o := ?_) ?_ (fun K9 hK9 => ?_) ?_
             rotate_left 1
             · simp only [List.getElem?_toArray, List.getElem?_cons_zero, List.getElem?_cons_succ]; rfl
             go_simp
             refine (HSu.out _ (h.below hw) (k.below hw)).mono ?_
             rintro e1 w5x ⟨AS, cS, rfl, hoS, hb⟩
             obtain ⟨gS, rfl, hgS, hrS⟩ := hoS.pos HSL1.out
             clear hoS
             have dPS : gP ≠ gS := by have := (show gP < w4x.heap.size from (hownP.lt gP rfl).2); omega
             have dSW : gS ≠ gW := by have := (show gW < w4x.heap.size from (hownW.lt gW rfl).2); omega
             have dDS : gD ≠ gS := by have := hrD.lt; omega
             have dST : gS ≠ gT := by have := hT.lt; omega
             have hbS : w.heap.size + 2 ≤ gS := Nat.le_trans hRs.lt hgS
             replace hx0 := keep_cell hb hx0
             replace hx1 := keep_cell hb hx1
             replace hRs := hRs.below hb
             replace hownP := own_below hownP hb
             replace hownW := own_below hownW hb
             replace hrD := hrD.below hb
             replace hT := hT.below hb
             replace hw := keep_below hb hw
             clear hHeld
             go_wp2_with fail
             refine hK9.out _ _ ⟨hx0, hx1, hw⟩ (fun hHeld => ?_)
             clear hK9 K9 hb
             (try simp only [Act.put, List.setIfInBounds_toArray, List.set_cons_zero, List.set_cons_succ])
             rotate_left 1
             exact AllReadyH.nil)
          | (refine wpAnyH_ready (rs := [1]) (by kernel_rfl) (by simp) ?_
             refine AllReadyH.cons (i := 1) (o := ?_) ?_ (fun K9 hK9 => ?_) ?_
             rotate_left 1
             · simp only [List.getElem?_toArray, List.getElem?_cons_zero, List.getElem?_cons_succ]; rfl
             go_simp
             clear hHeld
             refine hK9.out _ _ ⟨keep_cell ((Below.refl w4x.heap.size w4x).alloc (Nat.le_refl _) _) hx0, keep_cell ((Below.refl w4x.heap.size w4x).alloc (Nat.le_refl _) _) hx1, keep_below_alloc hw _⟩ (fun hHeld => ?_)
             clear hK9 K9
             (try simp only [Act.put, List.setIfInBounds_toArray, List.set_cons_zero, List.set_cons_succ])
             refine wpAnyH_name hHeld (fun w5x hHa hwz => ?_)
             have hbA : Below w4x.heap.size w4x w5x := by rw [hwz]; exact (Below.refl w4x.heap.size w4x).alloc (Nat.le_refl _) _
             have hwo : w.heap.size + 2 ≤ w4x.heap.size := hRs.lt
             have dPW : gP ≠ w4x.heap.size := by have := (show gP < w4x.heap.size from (hownP.lt gP rfl).2); omega
             have dDW : gD ≠ w4x.heap.size := by have := hrD.lt; omega
             have dSW : gS ≠ w4x.heap.size := by have := hrS.lt; omega
             have dTW : gT ≠ w4x.heap.size := by have := hT.lt; omega
             replace hx0 := keep_cell hbA hx0
             replace hx1 := keep_cell hbA hx1
             replace hRs := hRs.below hbA
             replace hownP := own_below hownP hbA
             replace hrD := hrD.below hbA
             replace hrS := hrS.below hbA
             replace hT := hT.below hbA
             replace hw := keep_below hbA hw
             have hownW : w5x.ownsRow (w.heap.size + 2) 3 1 (.slice (some ⟨w4x.heap.size, 0, none⟩) 0 0) 0 (i64s []) := by rw [hwz]; exact own_empty w4x (w.heap.size + 2) w4x.heap.size rfl hwo
             have hbW : w.heap.size + 2 ≤ w4x.heap.size := hwo
             clear hwo
             generalize w4x.heap.size = gW at hownW hbW dPW dDW dSW dTW ⊢
             clear hHeld hbA hwz
             have hHeld := hHa
             clear hHa
             refine wpAnyH_take (i := 2) (oi := ?_) (v := ?_) ?_ (by kernel_rfl) (by kernel_rfl) (by kernel_rfl) ?_ (Or.inl ⟨?_, ?_⟩) (by assumption) ?_
             rotate_left 2
             · simp only [List.getElem?_toArray, List.getElem?_cons_zero, List.getElem?_cons_succ]; rfl
             · exact fun _ _ _ h => h
             · rfl
             · intro wq hSw
               obtain ⟨hx0, hx1, hw⟩ := hSw
               go_simp
               (try with_reducible rfl)
             (try simp only [Act.put, List.setIfInBounds_toArray, List.set_cons_zero, List.set_cons_succ])
             rotate_left 1
             exact AllReadyH.nil)
          | (refine wpAnyH_ready (rs := [0]) (by kernel_rfl) (by simp) ?_
             refine AllReadyH.cons (i := 0) (o := ?_) ?_ (fun K9 hK9 => ?_) ?_
             rotate_left 1
             · simp only [List.getElem?_toArray, List.getElem?_cons_zero]; rfl
             go_simp
             clear hHeld
             refine hK9.out _ _ ⟨keep_cell ((Below.refl w4x.heap.size w4x).alloc (Nat.le_refl _) _) hx0, keep_cell ((Below.refl w4x.heap.size w4x).alloc (Nat.le_refl _) _) hx1, keep_below_alloc hw _⟩ (fun hHeld => ?_)
             clear hK9 K9
             (try simp only [Act.put, List.setIfInBounds_toArray, List.set_cons_zero, List.set_cons_succ])
             refine wpAnyH_name hHeld (fun w5x hHa hwz => ?_)
             have hbA : Below w4x.heap.size w4x w5x := by rw [hwz]; exact (Below.refl w4x.heap.size w4x).alloc (Nat.le_refl _) _
             have hwo : w.heap.size + 2 ≤ w4x.heap.size := hRs.lt
             have dPW : w4x.heap.size ≠ gW := by have := (show gW < w4x.heap.size from (hownW.lt gW rfl).2); omega
             have dDP : gD ≠ w4x.heap.size := by have := hrD.lt; omega
             have dPS : w4x.heap.size ≠ gS := by have := hrS.lt; omega
             have dPT : w4x.heap.size ≠ gT := by have := hT.lt; omega
             replace hx0 := keep_cell hbA hx0
             replace hx1 := keep_cell hbA hx1
             replace hRs := hRs.below hbA
             replace hownW := own_below hownW hbA
             replace hrD := hrD.below hbA
             replace hrS := hrS.below hbA
             replace hT := hT.below hbA
             replace hw := keep_below hbA hw
             have hownP : w5x.ownsRow (w.heap.size + 2) 3 1 (.slice (some ⟨w4x.heap.size, 0, none⟩) 0 0) 0 (i64s []) := by rw [hwz]; exact own_empty w4x (w.heap.size + 2) w4x.heap.size rfl hwo
             have hbP : w.heap.size + 2 ≤ w4x.heap.size := hwo
             clear hwo
             generalize w4x.heap.size = gP at hownP hbP dPW dDP dPS dPT ⊢
             clear hHeld hbA hwz
             have hHeld := hHa
             clear hHa
             refine wpAnyH_take (i := 2) (oi := ?_) (v := ?_) ?_ (by kernel_rfl) (by kernel_rfl) (by kernel_rfl) ?_ (Or.inl ⟨?_, ?_⟩) (by assumption) ?_
             rotate_left 2
             · simp only [List.getElem?_toArray, List.getElem?_cons_zero, List.getElem?_cons_succ]; rfl
             · exact fun _ _ _ h => h
             · rfl
             · intro wq hSw
               obtain ⟨hx0, hx1, hw⟩ := hSw
               go_simp
               (try with_reducible rfl)
             (try simp only [Act.put, List.setIfInBounds_toArray, List.set_cons_zero, List.set_cons_succ])
             rotate_left 1
             exact AllReadyH.nil)
        all_goals
          first
          | (refine wpAnyH_ready (rs := [8]) (by kernel_rfl) (by simp) ?_
             refine AllReadyH.cons (i := 8) (o := ?_) ?_ (fun K9 hK9 => ?_) ?_
             rotate_left 1
             · simp only [List.getElem?_toArray, List.getElem?_cons_zero, List.getElem?_cons_succ]; rfl
             have tt0 := hT.c0
             have tt1 := hT.c1
             have tf0 := hT.free 0
             have tf1 := hT.free 1
             go_simp
             clear hHeld
             refine hK9.out _ _ ⟨cell_far (g := gT) (cell_far (g := gT) hx0 (by simp; omega) 0) (by simp; omega) 1, cell_far (g := gT) (cell_far (g := gT) hx1 (by simp; omega) 0) (by simp; omega) 1, Below.setCell' (p := ⟨gT, 1, none⟩) (by simp; omega) (Below.setCell' (p := ⟨gT, 0, none⟩) (by simp; omega) hw _) _⟩ (fun hHeld => ?_)
             clear hK9 K9
             (try simp only [Act.put, List.setIfInBounds_toArray, List.set_cons_zero, List.set_cons_succ])
             refine wpAnyH_take (i := 9) (oi := ?_) (v := ?_) ?_ (by kernel_rfl) (by kernel_rfl) (by kernel_rfl) ?_ (Or.inl ⟨?_, ?_⟩) (by assumption) ?_
             rotate_left 2
             · simp only [List.getElem?_toArray, List.getElem?_cons_zero, List.getElem?_cons_succ]; rfl
             · exact fun _ _ _ h => h
             · rfl
             · intro wq hSw
               obtain ⟨hx0, hx1, hw⟩ := hSw
               go_simp
               (try with_reducible rfl)
             (try simp only [Act.put, List.setIfInBounds_toArray, List.set_cons_zero, List.set_cons_succ])
             refine wpAnyH_take (i := 10) (oi := ?_) (v := ?_) ?_ (by kernel_rfl) (by kernel_rfl) (by kernel_rfl) ?_ (Or.inl ⟨?_, ?_⟩) (by assumption) ?_
             rotate_left 2
             · simp only [List.getElem?_toArray, List.getElem?_cons_zero, List.getElem?_cons_succ]; rfl
             · exact fun _ _ _ h => h
             · rfl
             · intro wq hSw
               obtain ⟨hx0, hx1, hw⟩ := hSw
               go_simp
               (try with_reducible rfl)
             (try simp only [Act.put, List.setIfInBounds_toArray, List.set_cons_zero, List.set_cons_succ])
             rotate_left 1
             exact AllReadyH.nil)
        all_goals
          clear hHeld
          refine wpAnyH_done (by kernel_rfl) ?_ _
          go_wp2_with fail
          go_meet
          go_split_ands
          exact ⟨_, rfl, _, _, _, _, _, _, _, rfl, rfl, rfl, dPW, dPT, dDP, dPS, dTW, dDW, dSW, dDT, dST, dDS, hbP, hbW, hbT, own_far (own_far hownP (by simp [Value.ownBlock]; omega)) (by simp [Value.ownBlock]; omega), own_far (own_far hownW (by simp [Value.ownBlock]; omega)) (by simp [Value.ownBlock]; omega), (hT.set0 _).set1 _, (hrD.far (by omega) _ _).far (by omega) _ _, (hrS.far (by omega) _ _).far (by omega) _ _, (hRs.far (by omega) _ _).far (by omega) _ _, cell_far (cell_far hx0 (by simp; omega) 0) (by simp; omega) 1, cell_far (cell_far hx1 (by simp; omega) 0) (by simp; omega) 1, Below.setCell' (by simp; omega) (Below.setCell' (by simp; omega) hw _) _⟩
      case rest =>
        clear hRs hx0 hx1 hw
        obtain ⟨wx, rfl, gP, gW, gT, gD, gS, cD, cS, rfl, rfl, rfl, dPW, dPT, dDP, dPS, dTW, dDW, dSW, dDT, dST, dDS, hbP, hbW, hbT, hownP, hownW, hT, hrD, hrS, hRs, hx0, hx1, hw⟩ := hcut
        obtain ⟨F, hF⟩ : ∃ F : List Nat, F = [gT, gD, gS, w.heap.size, w.heap.size + 1] := ⟨_, rfl⟩
        have mT : gT ∈ F := by rw [hF]; simp
        have mD : gD ∈ F := by rw [hF]; simp
        have mS : gS ∈ F := by rw [hF]; simp
        have m0 : w.heap.size ∈ F := by rw [hF]; simp
        have m1 : w.heap.size + 1 ∈ F := by rw [hF]; simp
        have hzx := hRs.lt
        have hlT := hT.lt
        have hlD := hrD.lt
        have hlS := hrS.lt
        have hlP : gP < _ := (hownP.lt gP rfl).2
        have hlW : gW < _ := (hownW.lt gW rfl).2
        have hTri : Tri (wx.alloc (.cells #[] 3)) (w.heap.size + 2) gT F (.slice (some ⟨gP, 0, none⟩) 0 0) (.slice (some ⟨gW, 0, none⟩) 0 0) (.slice (some ⟨wx.heap.size, 0, none⟩) 0 0) 0 0 0 [] [] [] := by
          refine ⟨⟨hT.alloc _, hownP.alloc _, hownW.alloc _, ?_, ?_, ?_⟩, own_empty wx (w.heap.size + 2) wx.heap.size rfl (by omega), ?_, ?_, ?_, ?_, ?_, ?_, ?_⟩
          · simp [Value.ownBlock]; omega
          · simp [Value.ownBlock]; omega
          · simp [Value.ownBlock]; omega
          · intro g hg; rw [hF] at hg; simp at hg; simp [Value.ownBlock]; omega
          · intro g hg; rw [hF] at hg; simp at hg; simp [Value.ownBlock]; omega
          · intro g hg; rw [hF] at hg; simp at hg; simp [Value.ownBlock]; omega
          · intro g hg; rw [hF] at hg; simp at hg; simp; omega
          · simp [Value.ownBlock]; omega
          · simp [Value.ownBlock]; omega
          · simp [Value.ownBlock]; omega
        have hTle : w.heap.size ≤ gT := by omega
        have d0T : w.heap.size ≠ gT := by omega
        have d1T : w.heap.size + 1 ≠ gT := by omega
        have hbA : Below wx.heap.size wx (wx.alloc (.cells #[] 3)) := (Below.refl _ _).alloc (Nat.le_refl _) _
        replace hrD := hrD.below hbA
        replace hrS := hrS.below hbA
        replace hRs := hRs.below hbA
        replace hx0 := keep_cell hbA hx0
        replace hx1 := keep_cell hbA hx1
        replace hw := keep_below hbA hw
        clear hF hbA hT hownP hownW hzx hlT hlD hlS hlP hlW dPW dPT dDP dPS dTW dDW dSW dDS hbP hbW hbT
        rw [HDL.out, HSL.out]
        go_wp2
        go_loopw [9, 10, 11, 12] (fun u i _ _ wr => ∃ (i9 : Nat) (va vb : Value), i9 ≤ xs.length ∧ i = .int .i64 (i9 : Int) ∧ Tri wr (w.heap.size + 2) gT F va vb u (PF i9).length (WF i9).length i9 (PF i9) (WF i9) (AA i9) ∧ Row wr gD DP ∧ Row wr gS SU ∧ BlkT wr (w.heap.size + 1) (.slice none 0 0) (.slice none 0 0) ∧ wr.cell? ⟨w.heap.size, 0, none⟩ = some (.slice A xs.length c) ∧ wr.cell? ⟨w.heap.size, 1, none⟩ = some (.slice B ys.length e) ∧ Below w.heap.size w wr) (fun _ i _ _ _ => xs.length - (intOf i).toNat)
        case atStart => exact ⟨0, _, _, Nat.zero_le _, rfl, by rw [HP00.out, HW00.out, HA0.out]; exact hTri, hrD, hrS, hRs, hx0, hx1, hw⟩
        case round =>
          clear hTri hrD hrS hRs hx0 hx1 hw
          obtain ⟨i9, va, vb, hi9, rfl, hTr, hrD, hrS, hRs, hx0, hx1, hw⟩ := hrel
          have hdl := HDL.out
          have hsl := HSL.out
          have hpe := HPe.out i9
          have hwf : (WF i9).length ≤ i9 := by have := HWl.out i9; omega
          by_cases hlt : i9 < xs.length
          · have i0' : (0 : Int) ≤ (i9 : Int) := by omega
            have i1 : (i9 : Int) < (xs.length : Int) := by omega
            have hcD := hrD.cell (j := i9) (by omega)
            have hcS := hrS.cell (j := i9) (by omega)
            obtain ⟨A9, c9, rfl⟩ := own_slice hTr.two.own0
            obtain ⟨Au0, cu0, rfl⟩ := own_slice hTr.own2
            have t0 := hTr.two.blk.c0
            have hwz := hw.size
            have hwzb := hRs.lt
            go_upto_region 9 with (at_builtin; refine wpList_append_own_at _ rfl _ _ 24 rfl (w.heap.size + 2) 3 i0 (.int .i64 0) 1 8 Tryz.underlying24 hi hz0 hz1 hz2 rfl (by decide) _ _ _ rfl (hTr.own2.alloc _) ⟨wr.heap.size, 0, none⟩ 1 1 [.int .i64 ((PF i9).length : Int)] rfl rfl (cell_one_new _ _ _) (by simp [Value.oneCell']) (by unfold maxLen; omega) (by omega) (by simp; omega) ?_; intro vz wz hownz hgz _ hatz; obtain ⟨Avz, cvz, rfl⟩ := own_slice hownz)
            have hAT := HPl.out i9
            have hTz : Tri wz (w.heap.size + 2) gT F (.slice A9 (PF i9).length c9) vb (.slice Avz (i9 + 1) cvz) (PF i9).length (WF i9).length (i9 + 1) (PF i9) (WF i9) (AA (i9 + 1)) := by
              refine hTr.put2 hgz hatz ?_
              rw [HAs.out, ← hAT, i64s_app]; exact hownz
            clear hAT
            replace hw := Below.grown (hw.alloc hw.size _) hgz (hw.alloc hw.size _).size (fun g e => hTr.row2 (U := w) (by omega) g e)
            replace hrD := hrD.of_block (hTr.still2 hgz mD (hTr.fx2 _ mD))
            replace hrS := hrS.of_block (hTr.still2 hgz mS (hTr.fx2 _ mS))
            replace hRs := hRs.of_block (hTr.still2 hgz m1 (hTr.fx2 _ m1))
            replace hx0 := (World.cell?_of_block (hTr.still2 hgz m0 (hTr.fx2 _ m0))).trans hx0
            replace hx1 := (World.cell?_of_block (hTr.still2 hgz m0 (hTr.fx2 _ m0))).trans hx1
            clear hTr hgz hatz hownz t0 hwz hwzb hcD hcS
            have hcD := hrD.cell (j := i9) (by omega)
            have hcS := hrS.cell (j := i9) (by omega)
            by_cases hkd : nth DP i9 ≤ d9
            · have hkp : KP i9 = true := by rw [HKp.out]; exact decide_eq_true hkd
              have i3 : ¬ d9 < nth DP i9 := by omega
              have hWt := HWt.out i9
              have hyl := HYN.out
              obtain ⟨bB, oB, hBe, hcB⟩ := (k.below hw).at_ (j := i9) (by omega)
              have i2 : (i9 : Int) < (ys.length : Int) := by omega
              clear hyl
              have i6 : (i9 : Int) < (SU.length : Int) := by omega
              have i7 : (i9 : Int) < (DP.length : Int) := by omega
              rw [hBe] at hx1
              by_cases h0 : i9 = 0
              · have hPR : Hid (PR i9 = -1) := by rw [h0]; exact HP0
                have i4 : ¬ (0 : Int) < (i9 : Int) := by omega
                clear h0
                by_cases hdd : nth DP i9 = d9
                · have hWT : Hid (WT i9 = nth SU i9) := by rw [hWt, if_pos hdd]; exact Lib.hid rfl
                  have i5 : (nth DP i9 == d9) = true := by rw [beq_iff_eq]; exact hdd
                  clear hWt hkd
                  go_upto_region 10 with (fail)
                  go_quiet (fail)
                  have hbq : Below wz.heap.size wz (wz.drewN nq) := Below.drewN' (Below.refl _ _) nq
                  replace hTz := hTz.below hbq
                  replace hrD := hrD.below hbq
                  replace hrS := hrS.below hbq
                  replace hRs := hRs.below hbq
                  replace hw := keep_below hbq hw
                  replace hx0 := keep_cell hbq hx0
                  replace hx1 := keep_cell hbq hx1
                  replace hcB := keep_cell hbq hcB
                  replace hcD := keep_cell hbq hcD
                  replace hcS := keep_cell hbq hcS
                  clear hbq
                  generalize wz.drewN nq = wy at *
                  obtain ⟨A1, c1, rfl⟩ := own_slice hTz.two.own1
                  have t0 := hTz.two.blk.c0
                  have t1 := hTz.two.blk.c1
                  have hwz4 := hw.size
                  have hwz4b := hRs.lt
                  go_upto_region 16 with (at_builtin; refine wpList_append_own_at _ rfl _ _ 24 rfl (w.heap.size + 2) 3 i0 (.int .i64 0) 1 8 Tryz.underlying24 hi hz0 hz1 hz2 rfl (by decide) _ _ _ rfl (hTz.two.own0.alloc _) ⟨wy.heap.size, 0, none⟩ 1 1 [.int .i64 (-1)] rfl rfl (cell_one_new _ _ _) (by simp [Value.oneCell']) (by unfold maxLen; omega) (by omega) (by simp; omega) ?_; intro v5 w5 hown5 hg5 _ hat5; obtain ⟨Av5, cv5, rfl⟩ := own_slice hown5; have a5c0 := (hTz.two.blk0 hg5).c0; have a5c1 := (hTz.two.blk0 hg5).c1; have a5f := (hTz.two.blk0 hg5).free 0)
                  replace hw := below_put (j := 0) (v' := .slice Av5 ((PF i9).length + 1) cv5) hw hg5 (hTz.two.row0 (by omega)) hTle
                  replace hrD := hrD.of_block (hTz.still (v' := .slice Av5 ((PF i9).length + 1) cv5) (j := 0) hg5 mD (hTz.fx0 _ mD) dDT)
                  replace hrS := hrS.of_block (hTz.still (v' := .slice Av5 ((PF i9).length + 1) cv5) (j := 0) hg5 mS (hTz.fx0 _ mS) dST)
                  replace hRs := hRs.of_block (hTz.still (v' := .slice Av5 ((PF i9).length + 1) cv5) (j := 0) hg5 m1 (hTz.fx0 _ m1) d1T)
                  replace hx0 := (World.cell?_of_block (hTz.still (v' := .slice Av5 ((PF i9).length + 1) cv5) (j := 0) hg5 m0 (hTz.fx0 _ m0) d0T)).trans hx0
                  replace hx1 := (World.cell?_of_block (hTz.still (v' := .slice Av5 ((PF i9).length + 1) cv5) (j := 0) hg5 m0 (hTz.fx0 _ m0) d0T)).trans hx1
                  replace hown5 : w5.ownsRow (w.heap.size + 2) 3 1 (.slice Av5 ((PF i9).length + 1) cv5) ((PF i9).length + 1) (i64s (PF (i9 + 1))) := by rw [HPy.out _ hkp, hPR.out, i64s_app]; exact hown5
                  have h4 := hTz.put0 hg5 hat5 hown5
                  clear hTz hg5 hat5 hown5 t0 t1 a5c0 a5c1 a5f
                  generalize w5.setCell ⟨gT, 0, none⟩ (.slice Av5 ((PF i9).length + 1) cv5) = w6 at *
                  have t0 := h4.two.blk.c0
                  have t1 := h4.two.blk.c1
                  have hwz6 := hw.size
                  have hwz6b := hRs.lt
                  go_wp2_with (at_builtin; refine wpList_append_own_at _ rfl _ _ 24 rfl (w.heap.size + 2) 3 i0 (.int .i64 0) 1 8 Tryz.underlying24 hi hz0 hz1 hz2 rfl (by decide) _ _ _ rfl (h4.two.own1.alloc _) ⟨w6.heap.size, 0, none⟩ 1 1 [.int .i64 (nth SU i9)] rfl rfl (cell_one_new _ _ _) (by simp [Value.oneCell']) (by unfold maxLen; omega) (by omega) (by simp; omega) ?_; intro v7 w7 hown7 hg7 _ hat7; obtain ⟨Av7, cv7, rfl⟩ := own_slice hown7; have a7c0 := (h4.two.blk1 hg7).c0; have a7c1 := (h4.two.blk1 hg7).c1; have a7f := (h4.two.blk1 hg7).free 1)
                  have hz0 := (World.cell?_of_block (h4.still2 hg7 m0 (h4.fx1 _ m0))).trans hx0
                  have hz1 := (World.cell?_of_block (h4.still2 hg7 m0 (h4.fx1 _ m0))).trans hx1
                  replace hw := below_put (j := 1) (v' := .slice Av7 ((WF i9).length + 1) cv7) hw hg7 (h4.two.row1 (by omega)) hTle
                  replace hrD := hrD.of_block (h4.still (v' := .slice Av7 ((WF i9).length + 1) cv7) (j := 1) hg7 mD (h4.fx1 _ mD) dDT)
                  replace hrS := hrS.of_block (h4.still (v' := .slice Av7 ((WF i9).length + 1) cv7) (j := 1) hg7 mS (h4.fx1 _ mS) dST)
                  replace hRs := hRs.of_block (h4.still (v' := .slice Av7 ((WF i9).length + 1) cv7) (j := 1) hg7 m1 (h4.fx1 _ m1) d1T)
                  replace hx0 := (World.cell?_of_block (h4.still (v' := .slice Av7 ((WF i9).length + 1) cv7) (j := 1) hg7 m0 (h4.fx1 _ m0) d0T)).trans hx0
                  replace hx1 := (World.cell?_of_block (h4.still (v' := .slice Av7 ((WF i9).length + 1) cv7) (j := 1) hg7 m0 (h4.fx1 _ m0) d0T)).trans hx1
                  replace hown7 : w7.ownsRow (w.heap.size + 2) 3 1 (.slice Av7 ((WF i9).length + 1) cv7) ((WF i9).length + 1) (i64s (WF (i9 + 1))) := by rw [HWy.out _ hkp, hWT.out, i64s_app]; exact hown7
                  have h5 := h4.put1 hg7 hat7 hown7
                  have hl1 : (PF i9).length + 1 = (PF (i9 + 1)).length := by rw [HPy.out _ hkp]; simp
                  have hl2 : (WF i9).length + 1 = (WF (i9 + 1)).length := by rw [HWy.out _ hkp]; simp
                  have HL1 := Lib.hid hl1
                  have HL2 := Lib.hid hl2
                  clear h4 hg7 hat7 hown7 t0 t1 a7c0 a7c1 a7f hl1 hl2
                  generalize w7.setCell ⟨gT, 1, none⟩ (.slice Av7 ((WF i9).length + 1) cv7) = w8 at *
                  go_wp2
                  go_roundw
                  case rel => exact ⟨i9 + 1, by omega, by omega, ⟨_, _, by rw [← HL1.out, ← HL2.out]; exact h5⟩, hrD, hrS, hRs, hz0, hz1, hw⟩
                  case measure => simp [intOf]; omega
                · have hWT : Hid (WT i9 = nth ys i9) := by rw [hWt, if_neg hdd]; exact Lib.hid rfl
                  have i5 : (nth DP i9 == d9) = false := by rw [beq_eq_false_iff_ne]; exact hdd
                  clear hWt hkd
                  go_upto_region 10 with (fail)
                  go_quiet (fail)
                  have hbq : Below wz.heap.size wz (wz.drewN nq) := Below.drewN' (Below.refl _ _) nq
                  replace hTz := hTz.below hbq
                  replace hrD := hrD.below hbq
                  replace hrS := hrS.below hbq
                  replace hRs := hRs.below hbq
                  replace hw := keep_below hbq hw
                  replace hx0 := keep_cell hbq hx0
                  replace hx1 := keep_cell hbq hx1
                  replace hcB := keep_cell hbq hcB
                  replace hcD := keep_cell hbq hcD
                  replace hcS := keep_cell hbq hcS
                  clear hbq
                  generalize wz.drewN nq = wy at *
                  obtain ⟨A1, c1, rfl⟩ := own_slice hTz.two.own1
                  have t0 := hTz.two.blk.c0
                  have t1 := hTz.two.blk.c1
                  have hwz4 := hw.size
                  have hwz4b := hRs.lt
                  go_upto_region 16 with (at_builtin; refine wpList_append_own_at _ rfl _ _ 24 rfl (w.heap.size + 2) 3 i0 (.int .i64 0) 1 8 Tryz.underlying24 hi hz0 hz1 hz2 rfl (by decide) _ _ _ rfl (hTz.two.own0.alloc _) ⟨wy.heap.size, 0, none⟩ 1 1 [.int .i64 (-1)] rfl rfl (cell_one_new _ _ _) (by simp [Value.oneCell']) (by unfold maxLen; omega) (by omega) (by simp; omega) ?_; intro v5 w5 hown5 hg5 _ hat5; obtain ⟨Av5, cv5, rfl⟩ := own_slice hown5; have a5c0 := (hTz.two.blk0 hg5).c0; have a5c1 := (hTz.two.blk0 hg5).c1; have a5f := (hTz.two.blk0 hg5).free 0)
                  replace hw := below_put (j := 0) (v' := .slice Av5 ((PF i9).length + 1) cv5) hw hg5 (hTz.two.row0 (by omega)) hTle
                  replace hrD := hrD.of_block (hTz.still (v' := .slice Av5 ((PF i9).length + 1) cv5) (j := 0) hg5 mD (hTz.fx0 _ mD) dDT)
                  replace hrS := hrS.of_block (hTz.still (v' := .slice Av5 ((PF i9).length + 1) cv5) (j := 0) hg5 mS (hTz.fx0 _ mS) dST)
                  replace hRs := hRs.of_block (hTz.still (v' := .slice Av5 ((PF i9).length + 1) cv5) (j := 0) hg5 m1 (hTz.fx0 _ m1) d1T)
                  replace hx0 := (World.cell?_of_block (hTz.still (v' := .slice Av5 ((PF i9).length + 1) cv5) (j := 0) hg5 m0 (hTz.fx0 _ m0) d0T)).trans hx0
                  replace hx1 := (World.cell?_of_block (hTz.still (v' := .slice Av5 ((PF i9).length + 1) cv5) (j := 0) hg5 m0 (hTz.fx0 _ m0) d0T)).trans hx1
                  replace hown5 : w5.ownsRow (w.heap.size + 2) 3 1 (.slice Av5 ((PF i9).length + 1) cv5) ((PF i9).length + 1) (i64s (PF (i9 + 1))) := by rw [HPy.out _ hkp, hPR.out, i64s_app]; exact hown5
                  have h4 := hTz.put0 hg5 hat5 hown5
                  clear hTz hg5 hat5 hown5 t0 t1 a5c0 a5c1 a5f
                  generalize w5.setCell ⟨gT, 0, none⟩ (.slice Av5 ((PF i9).length + 1) cv5) = w6 at *
                  have t0 := h4.two.blk.c0
                  have t1 := h4.two.blk.c1
                  have hwz6 := hw.size
                  have hwz6b := hRs.lt
                  go_wp2_with (at_builtin; refine wpList_append_own_at _ rfl _ _ 24 rfl (w.heap.size + 2) 3 i0 (.int .i64 0) 1 8 Tryz.underlying24 hi hz0 hz1 hz2 rfl (by decide) _ _ _ rfl (h4.two.own1.alloc _) ⟨w6.heap.size, 0, none⟩ 1 1 [.int .i64 (nth ys i9)] rfl rfl (cell_one_new _ _ _) (by simp [Value.oneCell']) (by unfold maxLen; omega) (by omega) (by simp; omega) ?_; intro v7 w7 hown7 hg7 _ hat7; obtain ⟨Av7, cv7, rfl⟩ := own_slice hown7; have a7c0 := (h4.two.blk1 hg7).c0; have a7c1 := (h4.two.blk1 hg7).c1; have a7f := (h4.two.blk1 hg7).free 1)
                  have hz0 := (World.cell?_of_block (h4.still2 hg7 m0 (h4.fx1 _ m0))).trans hx0
                  have hz1 := (World.cell?_of_block (h4.still2 hg7 m0 (h4.fx1 _ m0))).trans hx1
                  replace hw := below_put (j := 1) (v' := .slice Av7 ((WF i9).length + 1) cv7) hw hg7 (h4.two.row1 (by omega)) hTle
                  replace hrD := hrD.of_block (h4.still (v' := .slice Av7 ((WF i9).length + 1) cv7) (j := 1) hg7 mD (h4.fx1 _ mD) dDT)
                  replace hrS := hrS.of_block (h4.still (v' := .slice Av7 ((WF i9).length + 1) cv7) (j := 1) hg7 mS (h4.fx1 _ mS) dST)
                  replace hRs := hRs.of_block (h4.still (v' := .slice Av7 ((WF i9).length + 1) cv7) (j := 1) hg7 m1 (h4.fx1 _ m1) d1T)
                  replace hx0 := (World.cell?_of_block (h4.still (v' := .slice Av7 ((WF i9).length + 1) cv7) (j := 1) hg7 m0 (h4.fx1 _ m0) d0T)).trans hx0
                  replace hx1 := (World.cell?_of_block (h4.still (v' := .slice Av7 ((WF i9).length + 1) cv7) (j := 1) hg7 m0 (h4.fx1 _ m0) d0T)).trans hx1
                  replace hown7 : w7.ownsRow (w.heap.size + 2) 3 1 (.slice Av7 ((WF i9).length + 1) cv7) ((WF i9).length + 1) (i64s (WF (i9 + 1))) := by rw [HWy.out _ hkp, hWT.out, i64s_app]; exact hown7
                  have h5 := h4.put1 hg7 hat7 hown7
                  have hl1 : (PF i9).length + 1 = (PF (i9 + 1)).length := by rw [HPy.out _ hkp]; simp
                  have hl2 : (WF i9).length + 1 = (WF (i9 + 1)).length := by rw [HWy.out _ hkp]; simp
                  have HL1 := Lib.hid hl1
                  have HL2 := Lib.hid hl2
                  clear h4 hg7 hat7 hown7 t0 t1 a7c0 a7c1 a7f hl1 hl2
                  generalize w7.setCell ⟨gT, 1, none⟩ (.slice Av7 ((WF i9).length + 1) cv7) = w8 at *
                  go_wp2
                  go_roundw
                  case rel => exact ⟨i9 + 1, by omega, by omega, ⟨_, _, by rw [← HL1.out, ← HL2.out]; exact h5⟩, hrD, hrS, hRs, hz0, hz1, hw⟩
                  case measure => simp [intOf]; omega
              · obtain ⟨p, hp, hpk⟩ := HU.out i9 (by omega) hlt
                obtain ⟨bA, oA, hAe, hcA⟩ := (h.below hw).at_ (j := i9) hlt
                rw [hAe] at hx0
                rw [hp] at hcA
                have hPR1 := HPr.out i9 p (by omega) hlt hp hpk hkp
                have hPR : Hid (PR i9 = AT p) := Lib.hid hPR1.2
                clear hPR1
                have i4 : (0 : Int) < (i9 : Int) := by omega
                have hAl := HAl.out (i9 + 1)
                obtain ⟨Ax, cx, hve, hOx, -⟩ := own_nil hTz.own2
                obtain ⟨gU, hgU, -, hrU⟩ := hOx.pos (by omega)
                have hcU := hrU.cell (j := p) (by omega)
                rw [HAn.out _ _ (by omega)] at hcU
                rw [hgU, hAl] at hve
                injection hve with hve1 hve2 hve3
                subst hve1 hve3
                have j0 : (0 : Int) ≤ (p : Int) := by omega
                have j1 : (p : Int) < (i9 : Int) + 1 := by omega
                have j2 : (p : Int) < ((i9 + 1 : Nat) : Int) := by omega
                clear h0 hOx hrU hAl hp hve2 hgU
                generalize AT p = pq at *
                by_cases hdd : nth DP i9 = d9
                · have hWT : Hid (WT i9 = nth SU i9) := by rw [hWt, if_pos hdd]; exact Lib.hid rfl
                  have i5 : (nth DP i9 == d9) = true := by rw [beq_iff_eq]; exact hdd
                  clear hWt hkd
                  go_upto_region 10 with (fail)
                  go_quiet (fail)
                  have hbq : Below wz.heap.size wz (wz.drewN nq) := Below.drewN' (Below.refl _ _) nq
                  replace hTz := hTz.below hbq
                  replace hrD := hrD.below hbq
                  replace hrS := hrS.below hbq
                  replace hRs := hRs.below hbq
                  replace hw := keep_below hbq hw
                  replace hx0 := keep_cell hbq hx0
                  replace hx1 := keep_cell hbq hx1
                  replace hcB := keep_cell hbq hcB
                  replace hcD := keep_cell hbq hcD
                  replace hcS := keep_cell hbq hcS
                  replace hcA := keep_cell hbq hcA
                  replace hcU := keep_cell hbq hcU
                  clear hbq
                  generalize wz.drewN nq = wy at *
                  obtain ⟨A1, c1, rfl⟩ := own_slice hTz.two.own1
                  have t0 := hTz.two.blk.c0
                  have t1 := hTz.two.blk.c1
                  have hwz4 := hw.size
                  have hwz4b := hRs.lt
                  go_upto_region 16 with (at_builtin; refine wpList_append_own_at _ rfl _ _ 24 rfl (w.heap.size + 2) 3 i0 (.int .i64 0) 1 8 Tryz.underlying24 hi hz0 hz1 hz2 rfl (by decide) _ _ _ rfl (hTz.two.own0.alloc _) ⟨wy.heap.size, 0, none⟩ 1 1 [.int .i64 pq] rfl rfl (cell_one_new _ _ _) (by simp [Value.oneCell']) (by unfold maxLen; omega) (by omega) (by simp; omega) ?_; intro v5 w5 hown5 hg5 _ hat5; obtain ⟨Av5, cv5, rfl⟩ := own_slice hown5; have a5c0 := (hTz.two.blk0 hg5).c0; have a5c1 := (hTz.two.blk0 hg5).c1; have a5f := (hTz.two.blk0 hg5).free 0)
                  replace hw := below_put (j := 0) (v' := .slice Av5 ((PF i9).length + 1) cv5) hw hg5 (hTz.two.row0 (by omega)) hTle
                  replace hrD := hrD.of_block (hTz.still (v' := .slice Av5 ((PF i9).length + 1) cv5) (j := 0) hg5 mD (hTz.fx0 _ mD) dDT)
                  replace hrS := hrS.of_block (hTz.still (v' := .slice Av5 ((PF i9).length + 1) cv5) (j := 0) hg5 mS (hTz.fx0 _ mS) dST)
                  replace hRs := hRs.of_block (hTz.still (v' := .slice Av5 ((PF i9).length + 1) cv5) (j := 0) hg5 m1 (hTz.fx0 _ m1) d1T)
                  replace hx0 := (World.cell?_of_block (hTz.still (v' := .slice Av5 ((PF i9).length + 1) cv5) (j := 0) hg5 m0 (hTz.fx0 _ m0) d0T)).trans hx0
                  replace hx1 := (World.cell?_of_block (hTz.still (v' := .slice Av5 ((PF i9).length + 1) cv5) (j := 0) hg5 m0 (hTz.fx0 _ m0) d0T)).trans hx1
                  replace hown5 : w5.ownsRow (w.heap.size + 2) 3 1 (.slice Av5 ((PF i9).length + 1) cv5) ((PF i9).length + 1) (i64s (PF (i9 + 1))) := by rw [HPy.out _ hkp, hPR.out, i64s_app]; exact hown5
                  have h4 := hTz.put0 hg5 hat5 hown5
                  clear hTz hg5 hat5 hown5 t0 t1 a5c0 a5c1 a5f
                  generalize w5.setCell ⟨gT, 0, none⟩ (.slice Av5 ((PF i9).length + 1) cv5) = w6 at *
                  have t0 := h4.two.blk.c0
                  have t1 := h4.two.blk.c1
                  have hwz6 := hw.size
                  have hwz6b := hRs.lt
                  go_wp2_with (at_builtin; refine wpList_append_own_at _ rfl _ _ 24 rfl (w.heap.size + 2) 3 i0 (.int .i64 0) 1 8 Tryz.underlying24 hi hz0 hz1 hz2 rfl (by decide) _ _ _ rfl (h4.two.own1.alloc _) ⟨w6.heap.size, 0, none⟩ 1 1 [.int .i64 (nth SU i9)] rfl rfl (cell_one_new _ _ _) (by simp [Value.oneCell']) (by unfold maxLen; omega) (by omega) (by simp; omega) ?_; intro v7 w7 hown7 hg7 _ hat7; obtain ⟨Av7, cv7, rfl⟩ := own_slice hown7; have a7c0 := (h4.two.blk1 hg7).c0; have a7c1 := (h4.two.blk1 hg7).c1; have a7f := (h4.two.blk1 hg7).free 1)
                  have hz0 := (World.cell?_of_block (h4.still2 hg7 m0 (h4.fx1 _ m0))).trans hx0
                  have hz1 := (World.cell?_of_block (h4.still2 hg7 m0 (h4.fx1 _ m0))).trans hx1
                  replace hw := below_put (j := 1) (v' := .slice Av7 ((WF i9).length + 1) cv7) hw hg7 (h4.two.row1 (by omega)) hTle
                  replace hrD := hrD.of_block (h4.still (v' := .slice Av7 ((WF i9).length + 1) cv7) (j := 1) hg7 mD (h4.fx1 _ mD) dDT)
                  replace hrS := hrS.of_block (h4.still (v' := .slice Av7 ((WF i9).length + 1) cv7) (j := 1) hg7 mS (h4.fx1 _ mS) dST)
                  replace hRs := hRs.of_block (h4.still (v' := .slice Av7 ((WF i9).length + 1) cv7) (j := 1) hg7 m1 (h4.fx1 _ m1) d1T)
                  replace hx0 := (World.cell?_of_block (h4.still (v' := .slice Av7 ((WF i9).length + 1) cv7) (j := 1) hg7 m0 (h4.fx1 _ m0) d0T)).trans hx0
                  replace hx1 := (World.cell?_of_block (h4.still (v' := .slice Av7 ((WF i9).length + 1) cv7) (j := 1) hg7 m0 (h4.fx1 _ m0) d0T)).trans hx1
                  replace hown7 : w7.ownsRow (w.heap.size + 2) 3 1 (.slice Av7 ((WF i9).length + 1) cv7) ((WF i9).length + 1) (i64s (WF (i9 + 1))) := by rw [HWy.out _ hkp, hWT.out, i64s_app]; exact hown7
                  have h5 := h4.put1 hg7 hat7 hown7
                  have hl1 : (PF i9).length + 1 = (PF (i9 + 1)).length := by rw [HPy.out _ hkp]; simp
                  have hl2 : (WF i9).length + 1 = (WF (i9 + 1)).length := by rw [HWy.out _ hkp]; simp
                  have HL1 := Lib.hid hl1
                  have HL2 := Lib.hid hl2
                  clear h4 hg7 hat7 hown7 t0 t1 a7c0 a7c1 a7f hl1 hl2
                  generalize w7.setCell ⟨gT, 1, none⟩ (.slice Av7 ((WF i9).length + 1) cv7) = w8 at *
                  go_wp2
                  go_roundw
                  case rel => exact ⟨i9 + 1, by omega, by omega, ⟨_, _, by rw [← HL1.out, ← HL2.out]; exact h5⟩, hrD, hrS, hRs, hz0, hz1, hw⟩
                  case measure => simp [intOf]; omega
                · have hWT : Hid (WT i9 = nth ys i9) := by rw [hWt, if_neg hdd]; exact Lib.hid rfl
                  have i5 : (nth DP i9 == d9) = false := by rw [beq_eq_false_iff_ne]; exact hdd
                  clear hWt hkd
                  go_upto_region 10 with (fail)
                  go_quiet (fail)
                  have hbq : Below wz.heap.size wz (wz.drewN nq) := Below.drewN' (Below.refl _ _) nq
                  replace hTz := hTz.below hbq
                  replace hrD := hrD.below hbq
                  replace hrS := hrS.below hbq
                  replace hRs := hRs.below hbq
                  replace hw := keep_below hbq hw
                  replace hx0 := keep_cell hbq hx0
                  replace hx1 := keep_cell hbq hx1
                  replace hcB := keep_cell hbq hcB
                  replace hcD := keep_cell hbq hcD
                  replace hcS := keep_cell hbq hcS
                  replace hcA := keep_cell hbq hcA
                  replace hcU := keep_cell hbq hcU
                  clear hbq
                  generalize wz.drewN nq = wy at *
                  obtain ⟨A1, c1, rfl⟩ := own_slice hTz.two.own1
                  have t0 := hTz.two.blk.c0
                  have t1 := hTz.two.blk.c1
                  have hwz4 := hw.size
                  have hwz4b := hRs.lt
                  go_upto_region 16 with (at_builtin; refine wpList_append_own_at _ rfl _ _ 24 rfl (w.heap.size + 2) 3 i0 (.int .i64 0) 1 8 Tryz.underlying24 hi hz0 hz1 hz2 rfl (by decide) _ _ _ rfl (hTz.two.own0.alloc _) ⟨wy.heap.size, 0, none⟩ 1 1 [.int .i64 pq] rfl rfl (cell_one_new _ _ _) (by simp [Value.oneCell']) (by unfold maxLen; omega) (by omega) (by simp; omega) ?_; intro v5 w5 hown5 hg5 _ hat5; obtain ⟨Av5, cv5, rfl⟩ := own_slice hown5; have a5c0 := (hTz.two.blk0 hg5).c0; have a5c1 := (hTz.two.blk0 hg5).c1; have a5f := (hTz.two.blk0 hg5).free 0)
                  replace hw := below_put (j := 0) (v' := .slice Av5 ((PF i9).length + 1) cv5) hw hg5 (hTz.two.row0 (by omega)) hTle
                  replace hrD := hrD.of_block (hTz.still (v' := .slice Av5 ((PF i9).length + 1) cv5) (j := 0) hg5 mD (hTz.fx0 _ mD) dDT)
                  replace hrS := hrS.of_block (hTz.still (v' := .slice Av5 ((PF i9).length + 1) cv5) (j := 0) hg5 mS (hTz.fx0 _ mS) dST)
                  replace hRs := hRs.of_block (hTz.still (v' := .slice Av5 ((PF i9).length + 1) cv5) (j := 0) hg5 m1 (hTz.fx0 _ m1) d1T)
                  replace hx0 := (World.cell?_of_block (hTz.still (v' := .slice Av5 ((PF i9).length + 1) cv5) (j := 0) hg5 m0 (hTz.fx0 _ m0) d0T)).trans hx0
                  replace hx1 := (World.cell?_of_block (hTz.still (v' := .slice Av5 ((PF i9).length + 1) cv5) (j := 0) hg5 m0 (hTz.fx0 _ m0) d0T)).trans hx1
                  replace hown5 : w5.ownsRow (w.heap.size + 2) 3 1 (.slice Av5 ((PF i9).length + 1) cv5) ((PF i9).length + 1) (i64s (PF (i9 + 1))) := by rw [HPy.out _ hkp, hPR.out, i64s_app]; exact hown5
                  have h4 := hTz.put0 hg5 hat5 hown5
                  clear hTz hg5 hat5 hown5 t0 t1 a5c0 a5c1 a5f
                  generalize w5.setCell ⟨gT, 0, none⟩ (.slice Av5 ((PF i9).length + 1) cv5) = w6 at *
                  have t0 := h4.two.blk.c0
                  have t1 := h4.two.blk.c1
                  have hwz6 := hw.size
                  have hwz6b := hRs.lt
                  go_wp2_with (at_builtin; refine wpList_append_own_at _ rfl _ _ 24 rfl (w.heap.size + 2) 3 i0 (.int .i64 0) 1 8 Tryz.underlying24 hi hz0 hz1 hz2 rfl (by decide) _ _ _ rfl (h4.two.own1.alloc _) ⟨w6.heap.size, 0, none⟩ 1 1 [.int .i64 (nth ys i9)] rfl rfl (cell_one_new _ _ _) (by simp [Value.oneCell']) (by unfold maxLen; omega) (by omega) (by simp; omega) ?_; intro v7 w7 hown7 hg7 _ hat7; obtain ⟨Av7, cv7, rfl⟩ := own_slice hown7; have a7c0 := (h4.two.blk1 hg7).c0; have a7c1 := (h4.two.blk1 hg7).c1; have a7f := (h4.two.blk1 hg7).free 1)
                  have hz0 := (World.cell?_of_block (h4.still2 hg7 m0 (h4.fx1 _ m0))).trans hx0
                  have hz1 := (World.cell?_of_block (h4.still2 hg7 m0 (h4.fx1 _ m0))).trans hx1
                  replace hw := below_put (j := 1) (v' := .slice Av7 ((WF i9).length + 1) cv7) hw hg7 (h4.two.row1 (by omega)) hTle
                  replace hrD := hrD.of_block (h4.still (v' := .slice Av7 ((WF i9).length + 1) cv7) (j := 1) hg7 mD (h4.fx1 _ mD) dDT)
                  replace hrS := hrS.of_block (h4.still (v' := .slice Av7 ((WF i9).length + 1) cv7) (j := 1) hg7 mS (h4.fx1 _ mS) dST)
                  replace hRs := hRs.of_block (h4.still (v' := .slice Av7 ((WF i9).length + 1) cv7) (j := 1) hg7 m1 (h4.fx1 _ m1) d1T)
                  replace hx0 := (World.cell?_of_block (h4.still (v' := .slice Av7 ((WF i9).length + 1) cv7) (j := 1) hg7 m0 (h4.fx1 _ m0) d0T)).trans hx0
                  replace hx1 := (World.cell?_of_block (h4.still (v' := .slice Av7 ((WF i9).length + 1) cv7) (j := 1) hg7 m0 (h4.fx1 _ m0) d0T)).trans hx1
                  replace hown7 : w7.ownsRow (w.heap.size + 2) 3 1 (.slice Av7 ((WF i9).length + 1) cv7) ((WF i9).length + 1) (i64s (WF (i9 + 1))) := by rw [HWy.out _ hkp, hWT.out, i64s_app]; exact hown7
                  have h5 := h4.put1 hg7 hat7 hown7
                  have hl1 : (PF i9).length + 1 = (PF (i9 + 1)).length := by rw [HPy.out _ hkp]; simp
                  have hl2 : (WF i9).length + 1 = (WF (i9 + 1)).length := by rw [HWy.out _ hkp]; simp
                  have HL1 := Lib.hid hl1
                  have HL2 := Lib.hid hl2
                  clear h4 hg7 hat7 hown7 t0 t1 a7c0 a7c1 a7f hl1 hl2
                  generalize w7.setCell ⟨gT, 1, none⟩ (.slice Av7 ((WF i9).length + 1) cv7) = w8 at *
                  go_wp2
                  go_roundw
                  case rel => exact ⟨i9 + 1, by omega, by omega, ⟨_, _, by rw [← HL1.out, ← HL2.out]; exact h5⟩, hrD, hrS, hRs, hz0, hz1, hw⟩
                  case measure => simp [intOf]; omega
            · have hkp : KP i9 = false := by rw [HKp.out]; exact decide_eq_false hkd
              have i3 : d9 < nth DP i9 := by omega
              have i7 : (i9 : Int) < (DP.length : Int) := by omega
              have hn1 := HPn.out _ hkp
              have hn2 := HWn.out _ hkp
              rw [← hn1, ← hn2] at hTz
              clear hkp hkd hn1 hn2
              go_wp2
              go_roundw
              case rel => exact ⟨i9 + 1, _, _, by omega, by go_num, hTz, hrD, hrS, hRs, hx0, hx1, hw⟩
              case measure => simp [intOf]; omega
          · have hie : i9 = xs.length := by omega
            subst hie
            obtain ⟨A1, c1, A2, c2, rfl, rfl, hO1, hO2, hap, -, -⟩ := hTr.two.forms
            have hbl := hTr.two.blk
            have t0 := hbl.c0
            have t1 := hbl.c1
            have hG := HGd.out wr A1 A2 c1 c2 hO1.ints hO2.ints
            clear hTr hdl hsl hpe hwf hlt
            go_wp2_with fail
            refine hG.mono ?_
            rintro e5 w5 ⟨rfl, hb5⟩
            replace hRs := hRs.below hb5
            replace hw := keep_below hb5 hw
            replace hO1 := hO1.below hb5
            replace hO2 := hO2.below hb5
            replace hbl := hbl.below hb5
            clear hb5 t0 t1 hG hx0 hx1
            have t0 := hbl.c0
            have t1 := hbl.c1
            cases r with
            | false =>
              have hr0 := hRs.c0
              have hr1 := hRs.c1
              have hf0 := hRs.free 0
              have hf1 := hRs.free 1
              clear t0 t1
              go_wp2
              refine bodyPost_ret (v := .tuple #[.agg #[.slice none 0 0, .slice none 0 0], .bool false]) (by simp (maxDischargeDepth := 9) [results, Tryz.results23, go_sem, *]) rfl ⟨none, 0, none, 0, rfl, .inl ⟨rfl, rfl⟩, .inl ⟨rfl, rfl⟩, (fun _ _ e1 => by cases e1), ?_⟩
              (repeat (first | with_reducible exact Below.refl _ _ | with_reducible assumption | with_reducible refine Below.alloc' ?_ ?_ _ | with_reducible refine Below.setCell' ?_ ?_ _ | with_reducible refine Below.drewN' ?_ _ | with_reducible refine Below.drew ?_ | with_reducible refine Below.transA ?_ (by assumption) ?_ | omega | (focus (simp; done)) | (focus (simp; omega))))
            | true =>
              have hr0 := hRs.c0
              have hr1 := hRs.c1
              have hf0 := hRs.free 0
              have hf1 := hRs.free 1
              have hkb := ((KeptBut.refl2 w5 (w.heap.size + 1)).setg 0 (.slice A1 (PF xs.length).length c1)).setg 1 (.slice A2 (WF xs.length).length c2)
              have hO1' := hkb.own hO1 (by omega) (by omega)
              have hO2' := hkb.own hO2 (by omega) (by omega)
              have hzz : w.heap.size ≤ w.heap.size + 2 := by omega
              clear hkb hO1 hO2
              go_wp2
              refine bodyPost_ret (v := .tuple #[.agg #[.slice A1 (PF xs.length).length c1, .slice A2 (WF xs.length).length c2], .bool true]) (by simp (maxDischargeDepth := 9) [results, Tryz.results23, go_sem, *]) rfl ⟨A1, c1, A2, c2, rfl, hO1'.mono hzz, hO2'.mono hzz, hap, ?_⟩
              (repeat (first | with_reducible exact Below.refl _ _ | with_reducible assumption | with_reducible refine Below.alloc' ?_ ?_ _ | with_reducible refine Below.setCell' ?_ ?_ _ | with_reducible refine Below.drewN' ?_ _ | with_reducible refine Below.drew ?_ | with_reducible refine Below.transA ?_ (by assumption) ?_ | omega | (focus (simp; done)) | (focus (simp; omega))))
end Go.Proofs.YtgccidkkfalaeaaGreatDoor
/- Plain: a root's sum as the sum over the ends; events and the ends beside them. -/
namespace Go.Proofs.YtgccidkkfalaeaaGreatDoor

def rsum (f : Nat → Int) : Nat → Int
  | 0 => 0
  | k + 1 => rsum f k + f k
theorem rsum_congr {f h : Nat → Int} {k : Nat} (e : ∀ j, j < k → f j = h j) : rsum f k = rsum h k := by
  induction k with
  | zero => rfl
  | succ k ih => rw [rsum, rsum, ih (fun j hj => e j (by omega)), e k (by omega)]
theorem rsum_list (f : Int → Int) (L : List Int) : ∀ k, k ≤ L.length → rsum (fun j => f (nth L j)) k = lsum f (L.take k)
  | 0, _ => by simp [rsum, lsum]
  | k + 1, h => by rw [rsum, rsum_list f L k (by omega), lsum_take f (by omega)]
theorem rsum_all (f : Int → Int) (L : List Int) : rsum (fun j => f (nth L j)) L.length = lsum f L := by rw [rsum_list f L _ (Nat.le_refl _), List.take_length]
theorem sumW_rsum (ys zs : List Int) (k : Nat) : sumW ys zs k = rsum (fun j => nth ys (nth zs j).toNat) k := by
  induction k with
  | zero => rfl
  | succ k ih => rw [sumW, rsum, ih]
theorem heavy_lsum (ys zs : List Int) : heavy ys zs = lsum (fun v => nth ys v.toNat) zs := by
  unfold heavy; rw [sumW_rsum]; exact rsum_all (fun v => nth ys v.toNat) zs
theorem lsum_filter (f : Int → Int) (p : Int → Bool) (L : List Int) : lsum f (L.filter p) + lsum f (L.filter fun v => !p v) = lsum f L := by
  induction L with
  | nil => simp [lsum]
  | cons a L ih =>
    cases h : p a
    · simp [h, lsum]; omega
    · simp [h, lsum]; omega
theorem lsum_pick (f : Int → Int) (p : Int → Bool) (L : List Int) : lsum (fun v => f v * (if p v then 1 else 0)) L = lsum f (L.filter p) := by
  induction L with
  | nil => simp [lsum]
  | cons a L ih =>
    cases h : p a
    · simp [h, lsum, ih]
    · simp [h, lsum, ih]
theorem asc_ends (xs : List Int) : Asc (endsL xs) := asc_pick _ _
theorem ends_lt {xs : List Int} {i j : Nat} (h : i < j) (hj : j < (endsL xs).length) : nth (endsL xs) i < nth (endsL xs) j := asc_lt (asc_pick (noKid xs xs.length) xs.length) h hj
theorem spr_zero (n : Nat) (ys E vs : List Int) (p : Nat) : ∀ k, (∀ j, j < k → (nth E j).toNat ≠ p) → nth (sprL n ys E vs k) p = 0
  | 0, _ => by rw [sprL, nth_zero]
  | k + 1, h => by
    rw [sprL]
    by_cases hp : (nth E k).toNat < (sprL n ys E vs k).length
    · rw [nth_set _ _ _ _ hp, if_neg (fun e => h k (by omega) e.symm)]
      exact spr_zero n ys E vs p k fun j hj => h j (by omega)
    · rw [List.set_eq_of_length_le (by omega)]
      exact spr_zero n ys E vs p k fun j hj => h j (by omega)
theorem tot_root {xs ys : List Int} (hg : good xs ys = true) (vs : List Int) : nth (totL xs ys vs) 0 = rsum (fun j => nth ys (nth (endsL xs) j).toNat * nth vs j) (endsL xs).length := by
  have hl := good_len hg
  unfold totL
  rw [gat_root (xs.length - 1) (good_up hg) (by rw [sprL_len]; omega), show xs.length - 1 + 1 = xs.length from by omega]
  have key : ∀ k, k ≤ (endsL xs).length → isum (sprL xs.length ys (endsL xs) vs k) xs.length = rsum (fun j => nth ys (nth (endsL xs) j).toNat * nth vs j) k := by
    intro k
    induction k with
    | zero =>
      intro _
      rw [sprL, rsum]
      have : ∀ m, isum (List.replicate xs.length 0) m = 0 := by
        intro m
        induction m with
        | zero => rfl
        | succ m ih => rw [isum, ih, nth_zero]; rfl
      exact this _
    | succ k ih =>
      intro hk
      obtain ⟨y, hy, hyn, _⟩ := ends_mem (show k < (endsL xs).length by omega)
      have h1 := isum_set (L := sprL xs.length ys (endsL xs) vs k) (p := (nth (endsL xs) k).toNat) (nth ys (nth (endsL xs) k).toNat * nth vs k) (by rw [sprL_len, hy]; exact hyn) xs.length (by rw [hy]; exact hyn)
      have h2 := spr_zero xs.length ys (endsL xs) vs (nth (endsL xs) k).toNat k fun j hj => by
        obtain ⟨z, hz, _, _⟩ := ends_mem (show j < (endsL xs).length by omega)
        have := ends_lt hj (show k < (endsL xs).length by omega)
        omega
      rw [sprL, rsum, ← ih (by omega)]
      omega
  exact key _ (Nat.le_refl _)
theorem pick_isum {ys : List Int} (f : Nat → Bool) : ∀ k, (∀ x, x < k → f x = false → nth ys x = 0) → lsum (fun v => nth ys v.toNat) (pick f k) = isum ys k
  | 0, _ => by simp [pick, lsum, isum]
  | k + 1, h => by
    have ih := pick_isum f k fun x hx => h x (by omega)
    cases hk : f k
    · rw [pick_no hk, isum, ih, h k (by omega) hk]; omega
    · rw [pick_yes hk, lsum_app, isum, ih]; simp [lsum]
theorem root_heavy {xs ys : List Int} (hg : good xs ys = true) : nth (sumsL xs ys) 0 = heavy ys (endsL xs) := by
  have hl := good_len hg
  unfold sumsL
  rw [gat_root (xs.length - 1) (good_up hg) (by omega), show xs.length - 1 + 1 = xs.length from by omega, heavy_lsum]
  refine (pick_isum (noKid xs xs.length) xs.length fun x hx hk => ?_).symm
  have h1 := wt_end hg hx
  rw [hk] at h1
  have := of_decide_eq_false h1
  have := good_wt hg x
  omega
theorem root_rsum {xs ys : List Int} (hg : good xs ys = true) : nth (sumsL xs ys) 0 = rsum (fun j => nth ys (nth (endsL xs) j).toNat) (endsL xs).length := by
  rw [root_heavy hg]; unfold heavy; exact sumW_rsum _ _ _
/-- An event's numbers are ends. -/
theorem ev_sub {xs ps : List Int} (h : isEv xs ps = true) {v : Int} (hv : v ∈ ps) : v ∈ endsL xs := by
  obtain ⟨j, hj, rfl⟩ := mem_nth hv
  obtain ⟨h1, h2⟩ := evIn_iff.1 (Bool.and_eq_true_iff.1 h).1 j hj
  obtain ⟨q, hq, hqn⟩ := ev_node h j hj
  rw [hq] at h2 ⊢
  exact mem_pick.2 ⟨q, rfl, hqn, by simpa using h2⟩
theorem ev_asc {xs ps : List Int} (h : isEv xs ps = true) : Asc ps := asc_rise.1 (Bool.and_eq_true_iff.1 h).2
theorem ev_both {xs ps : List Int} (h : isEv xs ps = true) : bothL (endsL xs) ps = ps :=
  asc_ext (asc_both (asc_ends xs) ps) (ev_asc h) fun _ => ⟨fun hv => (both_mem.1 hv).2, fun hv => both_mem.2 ⟨ev_sub h hv, hv⟩⟩
theorem sub_ev {xs ps : List Int} (ha : Asc ps) (h : ∀ v, v ∈ ps → v ∈ endsL xs) : isEv xs ps = true := by
  refine Bool.and_eq_true_iff.2 ⟨evIn_iff.2 fun j hj => ?_, asc_rise.2 ha⟩
  obtain ⟨q, hq, hqn, hk⟩ := mem_pick.1 (h _ (nth_mem hj))
  rw [hq]
  refine ⟨decide_eq_true ⟨by omega, by omega⟩, by simpa using hk⟩
theorem oth_all (xs ps : List Int) : othL xs ps = (endsL xs).filter fun v => !hasB ps v := by unfold othL; exact filK_all _ _
theorem oth_ev (xs ps : List Int) : isEv xs (othL xs ps) = true := by
  rw [oth_all]
  exact sub_ev (List.Pairwise.filter _ (asc_ends xs)) fun v hv => (List.mem_filter.1 hv).1
theorem both_ev {xs ps : List Int} (h : isEv xs ps = true) (qs : List Int) : isEv xs (bothL ps qs) = true :=
  sub_ev (asc_both (ev_asc h) qs) fun _ hv => ev_sub h (both_mem.1 hv).1
theorem heavy_oth {xs ys ps : List Int} (h : isEv xs ps = true) : heavy ys ps + heavy ys (othL xs ps) = heavy ys (endsL xs) := by
  have h1 := lsum_filter (fun v => nth ys v.toNat) (hasB ps) (endsL xs)
  rw [heavy_lsum, heavy_lsum, heavy_lsum, oth_all, ← h1]
  have h2 : (endsL xs).filter (hasB ps) = ps := ev_both h
  rw [h2]
theorem heavy_oth_both {xs ys ps qs : List Int} (h : isEv xs ps = true) (k : isEv xs qs = true) : heavy ys (bothL ps qs) + heavy ys (bothL (othL xs ps) qs) = heavy ys qs := by
  have h1 := lsum_filter (fun v => nth ys v.toNat) (hasB ps) qs
  have h2 : qs.filter (hasB ps) = bothL ps qs := both_comm (ev_asc k) (ev_asc h)
  have h3 : qs.filter (fun v => !hasB ps v) = bothL (othL xs ps) qs := by
    rw [oth_all]
    refine asc_ext (List.Pairwise.filter _ (ev_asc k)) (asc_both (List.Pairwise.filter _ (asc_ends xs)) qs) fun v => ?_
    rw [both_mem, List.mem_filter, List.mem_filter]
    exact ⟨fun hv => ⟨⟨ev_sub k hv.1, hv.2⟩, hv.1⟩, fun hv => ⟨hv.2, hv.1.2⟩⟩
  rw [heavy_lsum, heavy_lsum, heavy_lsum, ← h1, h2, h3]
theorem ind_len (xs ps : List Int) : (indcL xs ps).length = (endsL xs).length := by unfold indcL; exact mapI_len _ _ (Nat.le_refl _)
theorem ind_nth {xs ps : List Int} {j : Nat} (hj : j < (endsL xs).length) : nth (indcL xs ps) j = indE ps (nth (endsL xs) j) := by unfold indcL; exact mapI_nth _ _ hj
theorem ind_pay (xs ps : List Int) : payB xs (indcL xs ps) = true := by
  unfold payB
  rw [Bool.and_eq_true]
  refine ⟨decide_eq_true (ind_len xs ps), allIn_yes fun j hj => ?_⟩
  rw [ind_len] at hj
  rw [ind_nth hj]; unfold indE; split <;> omega
theorem ind_tot {xs ys ps : List Int} (hg : good xs ys = true) (h : isEv xs ps = true) : nth (totL xs ys (indcL xs ps)) 0 = heavy ys ps := by
  rw [tot_root hg, rsum_congr (h := fun j => (fun v => nth ys v.toNat * indE ps v) (nth (endsL xs) j)) (fun j hj => by rw [ind_nth hj]), rsum_all (fun v => nth ys v.toNat * indE ps v), heavy_lsum]
  have h1 := lsum_pick (fun v => nth ys v.toNat) (hasB ps) (endsL xs)
  have h2 : (endsL xs).filter (hasB ps) = ps := ev_both h
  rw [h2] at h1
  exact h1
end Go.Proofs.YtgccidkkfalaeaaGreatDoor
/- Plain: what the law of trees leans on: sums go from parents to children, a cut has all of the sum, a pruned tree keeps it. -/
namespace Go.Proofs.YtgccidkkfalaeaaGreatDoor

theorem rsum_add (f h : Nat → Int) : ∀ k, rsum (fun x => f x + h x) k = rsum f k + rsum h k
  | 0 => rfl
  | k + 1 => by rw [rsum, rsum, rsum, rsum_add f h k]; omega
theorem rsum_nil {f : Nat → Int} {k : Nat} (h : ∀ x, x < k → f x = 0) : rsum f k = 0 := by
  induction k with
  | zero => rfl
  | succ k ih => rw [rsum, ih (fun x hx => h x (by omega)), h k (by omega)]; rfl
theorem rsum_one {p : Nat} {c : Int} : ∀ {k : Nat}, p < k → rsum (fun x => if x = p then c else 0) k = c
  | k + 1, h => by
    rw [rsum]
    by_cases e : k = p
    · rw [if_pos e, rsum_nil fun x hx => if_neg (by omega)]; omega
    · rw [if_neg e, rsum_one (by omega)]; omega
theorem rsum_head (f : Nat → Int) : ∀ k, rsum f (k + 1) = f 0 + rsum (fun j => f (j + 1)) k
  | 0 => by simp [rsum]
  | k + 1 => by rw [rsum, rsum_head f k, rsum]; omega
/-- What the children of the nodes of a level hold is what the next level holds. -/
theorem level_sum {xs : List Int} (hu : ∀ j, 1 ≤ j → j < xs.length → ∃ p : Nat, nth xs j = p ∧ p < j) (R : List Int) (d : Int) : ∀ k, k < xs.length →
    rsum (fun x => if dpt xs x = d then psum xs R x k else 0) xs.length = rsum (fun j => if dpt xs (j + 1) = d + 1 then nth R (j + 1) else 0) k
  | 0, _ => by rw [rsum]; exact rsum_nil fun x _ => by split <;> rfl
  | k + 1, h => by
    obtain ⟨p, hp, hpk⟩ := hu (k + 1) (by omega) h
    have hd := dpt_step (by omega) h hp hpk
    have ih := level_sum hu R d k (by omega)
    rw [rsum, ← ih]
    have e : ∀ x, x < xs.length → (if dpt xs x = d then psum xs R x (k + 1) else 0) = (if dpt xs x = d then psum xs R x k else 0) + (if x = p then (if dpt xs (k + 1) = d + 1 then nth R (k + 1) else 0) else 0) := by
      intro x _
      rw [psum, hp]
      by_cases ex : x = p
      · subst ex
        rw [if_pos rfl, if_pos rfl]
        by_cases e2 : dpt xs x = d
        · rw [if_pos e2, if_pos e2, if_pos (by omega)]
        · rw [if_neg e2, if_neg e2, if_neg (by omega)]; rfl
      · rw [if_neg (show ¬ (p : Int) = x by omega), if_neg ex]
        split <;> omega
    rw [rsum_congr e, rsum_add, rsum_one (by omega)]
/-- A node's part of the cut at time d. -/
def cutG (xs ys : List Int) (d : Int) (x : Nat) : Int := if dpt xs x = d then nth (sumsL xs ys) x else if dpt xs x < d then nth ys x else 0
theorem sums_psum {xs ys : List Int} (hg : good xs ys = true) (x : Nat) : nth (sumsL xs ys) x = nth ys x + psum xs (sumsL xs ys) x (xs.length - 1) := by
  have hl := good_len hg
  exact gat_node (xs.length - 1) (good_up hg) (L := ys) (by omega) x
theorem dpt_pos {xs ys : List Int} (hg : good xs ys = true) {x : Nat} (h1 : 1 ≤ x) (hx : x < xs.length) : 1 ≤ dpt xs x := by
  obtain ⟨p, hp, hpx⟩ := good_upL hg x h1 hx
  have := dpt_step h1 hx hp hpx
  have := dpt_low xs p
  omega
theorem cut_all {xs ys : List Int} (hg : good xs ys = true) : ∀ d : Nat, rsum (cutG xs ys d) xs.length = nth (sumsL xs ys) 0
  | 0 => by
    have hl := good_len hg
    rw [rsum_congr (h := fun x => if x = 0 then nth (sumsL xs ys) 0 else 0) fun x hx => ?_, rsum_one (by omega)]
    unfold cutG
    by_cases e : x = 0
    · subst e; rw [if_pos (show dpt xs 0 = ((0 : Nat) : Int) from dpt_root hl.1), if_pos rfl]
    · have := dpt_pos hg (by omega) hx
      rw [if_neg (by omega), if_neg (by omega), if_neg e]
  | d + 1 => by
    have hl := good_len hg
    have ih := cut_all hg d
    have h1 := level_sum (good_upL hg) (sumsL xs ys) d (xs.length - 1) (by omega)
    have h2 := rsum_head (fun x => if dpt xs x = (d : Int) + 1 then nth (sumsL xs ys) x else 0) (xs.length - 1)
    rw [show xs.length - 1 + 1 = xs.length from by omega, if_neg (by rw [dpt_root hl.1]; omega), Int.zero_add, ← h1] at h2
    have h3 : rsum (fun x => cutG xs ys ((d + 1 : Nat) : Int) x + (if dpt xs x = (d : Int) then psum xs (sumsL xs ys) x (xs.length - 1) else 0)) xs.length = rsum (fun x => (if dpt xs x = (d : Int) + 1 then nth (sumsL xs ys) x else 0) + cutG xs ys d x) xs.length := by
      refine rsum_congr fun x _ => ?_
      have hs := sums_psum hg x
      unfold cutG
      rw [show ((d + 1 : Nat) : Int) = (d : Int) + 1 from by omega]
      by_cases e1 : dpt xs x = (d : Int) + 1
      · rw [if_pos e1, if_neg (by omega), if_pos e1, if_neg (by omega), if_neg (by omega)]
      · rw [if_neg e1, if_neg e1]
        by_cases e2 : dpt xs x = (d : Int)
        · rw [if_pos e2, if_pos e2, if_pos (by omega)]; omega
        · rw [if_neg e2, if_neg e2]
          by_cases e3 : dpt xs x < (d : Int)
          · rw [if_pos e3, if_pos (by omega)]; omega
          · rw [if_neg e3, if_neg (by omega)]
    rw [rsum_add, rsum_add, h2] at h3
    omega
theorem pick_rsum (h : Nat → Int) (f : Nat → Bool) : ∀ k, lsum (fun v => h v.toNat) (pick f k) = rsum (fun x => if f x then h x else 0) k
  | 0 => by simp [pick, lsum, rsum]
  | k + 1 => by
    have ih := pick_rsum h f k
    cases hk : f k
    · rw [pick_no hk, rsum, ih, hk]; simp
    · rw [pick_yes hk, lsum_app, rsum, ih, hk]; simp [lsum]
theorem end_sum {xs ys : List Int} (hg : good xs ys = true) {x : Nat} (hx : x < xs.length) (h : 0 < nth ys x) : nth (sumsL xs ys) x = nth ys x := by
  have h1 := wt_end hg hx
  rw [decide_eq_true h] at h1
  have h2 := List.eq_nil_of_length_eq_zero ((kids_nil hg hx).2 h1.symm)
  rw [sums_node hg x, h2]; simp [lsum]
theorem cut_part {xs ys : List Int} (hg : good xs ys = true) (d : Int) {x : Nat} (hx : x < xs.length) : (if inCut xs ys d x then nth (sumsL xs ys) x else 0) = cutG xs ys d x := by
  have hw := good_wt hg x
  unfold inCut cutG
  change (if (dpt xs x == d || (decide (dpt xs x < d) && decide (0 < nth ys x))) = true then _ else _) = _
  by_cases e1 : dpt xs x = d
  · rw [if_pos e1, if_pos (by simp [e1])]
  · rw [if_neg e1]
    by_cases e2 : dpt xs x < d
    · rw [if_pos e2]
      by_cases e3 : 0 < nth ys x
      · rw [if_pos (by simp [e2, e3]), end_sum hg hx e3]
      · rw [if_neg (by simp [e1, e3])]; omega
    · rw [if_neg e2, if_neg (by simp [e1, e2])]
/-- The cut has all of the sum. -/
theorem cut_total {xs ys : List Int} (hg : good xs ys = true) {d : Int} (hd : 0 ≤ d) : lsum (fun v => nth (sumsL xs ys) v.toNat) (cutL xs ys d) = nth (sumsL xs ys) 0 := by
  obtain ⟨n, rfl⟩ := Int.eq_ofNat_of_zero_le hd
  unfold cutL
  rw [pick_rsum (fun x => nth (sumsL xs ys) x), rsum_congr fun x hx => cut_part hg (n : Int) hx]
  exact cut_all hg n
theorem isum_app (L : List Int) (v : Int) : isum (L ++ [v]) (L.length + 1) = isum L L.length + v := by
  have h : ∀ k, k ≤ L.length → isum (L ++ [v]) k = isum L k := by
    intro k
    induction k with
    | zero => intro _; rfl
    | succ k ih => intro hk; rw [isum, isum, ih (by omega), nth_app_lt (by omega)]
  rw [isum, h _ (Nat.le_refl _), nth_app_eq]
theorem sel_isum (keep : Nat → Bool) (f : Nat → Int) : ∀ k, isum (selK keep f k) (selK keep f k).length = rsum (fun x => if keep x then f x else 0) k
  | 0 => rfl
  | k + 1 => by
    have ih := sel_isum keep f k
    cases hk : keep k
    · rw [selK_no hk, rsum, ih, hk]; simp
    · rw [selK_yes hk, List.length_append, show [f k].length = 1 from rfl, isum_app, rsum, ih, hk]; simp
/-- The pruned tree keeps the sum. -/
theorem prune_sum {xs ys : List Int} {d : Int} (h : prOk xs ys d = true) : nth (sumsL (prP xs d xs.length) (prW xs ys d xs.length)) 0 = nth (sumsL xs ys) 0 := by
  unfold prOk prIn at h
  simp only [Bool.and_eq_true] at h
  obtain ⟨⟨hg, hd⟩, hg2⟩ := h
  obtain ⟨n, rfl⟩ := Int.eq_ofNat_of_zero_le (of_decide_eq_true hd)
  have hl := good_len hg2
  unfold sumsL
  rw [gat_root ((prP xs n xs.length).length - 1) (good_up hg2) (by omega), show (prP xs n xs.length).length - 1 + 1 = (prW xs ys n xs.length).length from by omega]
  unfold prW
  rw [sel_isum, rsum_congr (h := cutG xs ys n) fun x _ => ?_]
  · exact cut_all hg n
  · unfold prKeep prWt cutG
    by_cases e1 : dpt xs x = (n : Int)
    · rw [if_pos e1, if_pos e1, if_pos (by simp [e1])]
    · rw [if_neg e1, if_neg e1]
      by_cases e2 : dpt xs x < (n : Int)
      · rw [if_pos e2, if_pos (by simp; omega)]
      · rw [if_neg e2, if_neg (by simp; omega)]
def cnt (f : Nat → Bool) : Nat → Nat
  | 0 => 0
  | k + 1 => cnt f k + if f k then 1 else 0
theorem cnt_congr {f h : Nat → Bool} {k : Nat} (e : ∀ x, x < k → f x = h x) : cnt f k = cnt h k := by
  induction k with
  | zero => rfl
  | succ k ih => rw [cnt, cnt, ih (fun x hx => e x (by omega)), e k (by omega)]
theorem pick_cnt (f : Nat → Bool) : ∀ k, (pick f k).length = cnt f k
  | 0 => rfl
  | k + 1 => by
    have ih := pick_cnt f k
    cases hk : f k
    · rw [pick_no hk, cnt, ih, hk]; simp
    · rw [pick_yes hk, cnt, List.length_append, ih, hk]; simp
theorem sel_cnt (keep : Nat → Bool) (f : Nat → Int) : ∀ k, cnt (fun j => decide (0 < nth (selK keep f k) j)) (selK keep f k).length = cnt (fun x => keep x && decide (0 < f x)) k
  | 0 => rfl
  | k + 1 => by
    have ih := sel_cnt keep f k
    cases hk : keep k
    · rw [selK_no hk, cnt, ih, hk]; simp
    · rw [selK_yes hk, List.length_append, show [f k].length = 1 from rfl, cnt, cnt, nth_app_eq, cnt_congr (h := fun j => decide (0 < nth (selK keep f k) j)) fun x hx => by rw [nth_app_lt hx], ih, hk]; simp
/-- The pruned tree has an end for each node of the cut. -/
theorem prune_ends {xs ys : List Int} {d : Int} (h : prOk xs ys d = true) : (endsL (prP xs d xs.length)).length = (cutL xs ys d).length := by
  unfold prOk prIn at h
  simp only [Bool.and_eq_true] at h
  obtain ⟨⟨hg, hd⟩, hg2⟩ := h
  have hl := good_len hg2
  unfold endsL cutL
  rw [pick_cnt, pick_cnt, cnt_congr (h := fun j => decide (0 < nth (prW xs ys d xs.length) j)) fun x hx => (wt_end hg2 hx).symm, ← hl.2.2]
  unfold prW
  rw [sel_cnt]
  refine cnt_congr fun x hx => ?_
  have hs := sums_one hg hx
  unfold prKeep prWt inCut
  change _ = (dpt xs x == d || (decide (dpt xs x < d) && decide (0 < nth ys x)))
  by_cases e1 : dpt xs x = d
  · rw [if_pos e1, decide_eq_true (show dpt xs x ≤ d by omega), decide_eq_true (show 0 < nth (sumsL xs ys) x by omega)]; simp [e1]
  · rw [if_neg e1, show (dpt xs x == d) = false from by rw [beq_eq_false_iff_ne]; exact e1]
    by_cases e2 : dpt xs x < d
    · rw [decide_eq_true (show dpt xs x ≤ d by omega), decide_eq_true e2]; simp
    · rw [decide_eq_false (show ¬ dpt xs x ≤ d by omega), decide_eq_false e2]; simp
/-- How many of the nodes 1 .. k have parent x. -/
def kcnt (xs : List Int) (x : Nat) : Nat → Nat
  | 0 => 0
  | k + 1 => kcnt xs x k + if nth xs (k + 1) = (x : Int) then 1 else 0
theorem kcnt_at {xs : List Int} {x j : Nat} (h : 1 ≤ j) : kcnt xs x j = kcnt xs x (j - 1) + if nth xs j = (x : Int) then 1 else 0 := by
  obtain ⟨m, rfl⟩ : ∃ m, j = m + 1 := ⟨j - 1, by omega⟩
  rfl
theorem kcnt_zero {xs : List Int} {x : Nat} : ∀ k, kcnt xs x k = 0 ↔ ∀ y, 1 ≤ y → y ≤ k → nth xs y ≠ x
  | 0 => ⟨fun _ y h1 h2 => by omega, fun _ => rfl⟩
  | k + 1 => by
    have ih := kcnt_zero (xs := xs) (x := x) k
    rw [kcnt]
    by_cases e : nth xs (k + 1) = (x : Int)
    · rw [if_pos e]; exact ⟨fun h => by omega, fun h => absurd e (h (k + 1) (by omega) (Nat.le_refl _))⟩
    · rw [if_neg e]
      exact ⟨fun h y h1 h2 => by
        by_cases e2 : y = k + 1
        · rw [e2]; exact e
        · exact ih.1 (by omega) y h1 (by omega), fun h => by rw [ih.2 fun y h1 h2 => h y h1 (by omega)]⟩
theorem kcnt_end {xs ys : List Int} (hg : good xs ys = true) {x : Nat} (hx : x < xs.length) : hasB (endsL xs) x = decide (kcnt xs x (xs.length - 1) = 0) := by
  have hl := good_len hg
  have h1 : hasB (endsL xs) x = noKid xs xs.length x := by
    rw [Bool.eq_iff_iff, hasB_mem]
    exact ⟨fun h => by obtain ⟨q, e, _, hk⟩ := mem_pick.1 h; rw [show x = q by omega]; exact hk, fun h => mem_pick.2 ⟨x, rfl, hx, h⟩⟩
  rw [h1, Bool.eq_iff_iff, decide_eq_true_iff, kcnt_zero]
  unfold noKid
  rw [List.all_eq_true]
  constructor
  · intro h y _ h2 e
    have := h y (List.mem_range.2 (by omega))
    simp [e] at this
  · intro h y hy
    have hy := List.mem_range.1 hy
    by_cases e : y = 0
    · subst e; rw [good_root hg]; first | (simp; done) | (simp; omega)
    · simpa using h y (by omega) (by omega)
/-- A node's sum, by its children. -/
theorem kids_sum {xs ys : List Int} (hg : good xs ys = true) {x : Nat} (hx : x < xs.length) :
    (kcnt xs x (xs.length - 1) = 0 → nth (sumsL xs ys) x = nth ys x) ∧ (kcnt xs x (xs.length - 1) ≠ 0 → psum xs (sumsL xs ys) x (xs.length - 1) = nth (sumsL xs ys) x) := by
  have hs := sums_psum hg x
  refine ⟨fun h => ?_, fun h => ?_⟩
  · rw [hs, psum_zero (kcnt_zero _ |>.1 h)]; omega
  · have h1 := kcnt_end hg hx
    rw [decide_eq_false h, end_wt hg hx] at h1
    have := of_decide_eq_false h1
    omega
end Go.Proofs.YtgccidkkfalaeaaGreatDoor
