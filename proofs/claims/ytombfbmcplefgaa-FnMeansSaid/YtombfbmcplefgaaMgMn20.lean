/- Contracts: the reference's draws of arguments over trees. -/
import Derived.StillTailTactics
import Derived.Deep.QuietTactic
import Derived.BigQuiet
import Derived.Test.YtombfbmcplefgaaMgMn18
import Derived.Test.YtombfbmcplefgaaMgMn19
import Derived.Test.YtombfbmcplefgaaMgMn17
import Derived.Test.YtombfbmcplefgaaMgMn12
namespace Go.Proofs.Ytombfbmcplefgaa
open Go.ChangeShapes Go.WideShapes Go.ChangeAt Go.RowKit

/-- A draw of arguments, under way: its cursor in the block behind the result's. -/
structure Dr (w W : World) (C : Option Addr) (n cc m : Nat) : Prop where
  cur : CurB W (w.heap.size + 1) C n cc m
  byt : Byt W C n
  bel : Below w.heap.size w W
  res : BlkT W w.heap.size (.slice none 0 0) (.slice none 0 0)
section
variable {w W W' : World} {C : Option Addr} {n cc m m' : Nat}
theorem Dr.mono (h : Dr w W C n cc m) (hm : m ≤ m') : Dr w W C n cc m' := ⟨h.cur.mono hm, h.byt, h.bel, h.res⟩
theorem Dr.below (h : Dr w W C n cc m) (hb : Below W.heap.size W W') : Dr w W' C n cc m := ⟨h.cur.below hb, h.byt.below hb, keep_below hb h.bel, h.res.below hb⟩
theorem Dr.draw (h : Dr w W C n cc m) (hne : ∀ b o, 0 < n → C = some ⟨b, o, none⟩ → b ≠ w.heap.size + 1) (hd : Drew W (w.heap.size + 1) C n cc m' W') : Dr w W' C n cc m' :=
  ⟨hd.1, h.byt.kept hd.2 hne, hd.2.below h.bel (by omega) (by omega), (hd.2.block _ h.res.lt (by omega) (by omega)).trans h.res⟩
theorem Dr.start (w : World) (C : Option Addr) (n cc : Nat) (hB : Byt w C n) : Dr w ((w.alloc (.cells #[.slice none 0 0, .slice none 0 0] 28)).alloc (.cells #[.slice C n cc, .int .i64 0, .int .u64 0] 98)) C n cc 0 := by
  have hs : (w.alloc (.cells #[.slice none 0 0, .slice none 0 0] 28)).heap.size = w.heap.size + 1 := by simp
  have hb1 : Below w.heap.size w (w.alloc (.cells #[.slice none 0 0, .slice none 0 0] 28)) := (Below.refl _ _).alloc (Nat.le_refl _) _
  have hb2 := (Below.refl (w.alloc (.cells #[.slice none 0 0, .slice none 0 0] 28)).heap.size (w.alloc (.cells #[.slice none 0 0, .slice none 0 0] 28))).alloc (Nat.le_refl _) (.cells #[.slice C n cc, .int .i64 0, .int .u64 0] 98)
  have hc := cur_new (w.alloc (.cells #[.slice none 0 0, .slice none 0 0] 28)) C n cc
  rw [hs] at hc
  exact ⟨hc, (hB.below hb1).below hb2, keep_below hb2 hb1, (BlkT.new w _ _ rfl : BlkT _ w.heap.size _ _).below hb2⟩
theorem Dr.siz (h : Dr w W C n cc m) : w.heap.size + 2 ≤ W.heap.size := h.cur.lt
end
/-- Draws hand back a tree and two lists. -/
def RetD3 (w : World) (e : Ending) (w' : World) : Prop := ∃ (X Y L M : List Int) (A B P Q : Option Addr) (c d p q : Nat), e = .returned (.tuple #[.agg #[.slice A X.length c, .slice B Y.length d], .slice P L.length p, .slice Q M.length q]) ∧ IntS w' A X ∧ IntS w' B Y ∧ IntS w' P L ∧ IntS w' Q M ∧ X.length ≤ 25 ∧ Y.length ≤ 50 ∧ L.length ≤ 25 ∧ M.length ≤ 25 ∧ Bd X ∧ Bd Y ∧ Bd L ∧ Bd M ∧ Below w.heap.size w w'
/-- Draws hand back a tree, a number and a list. -/
def RetDI (w : World) (e : Ending) (w' : World) : Prop := ∃ (X Y M : List Int) (z : Int) (A B Q : Option Addr) (c d q : Nat), e = .returned (.tuple #[.agg #[.slice A X.length c, .slice B Y.length d], .int .i64 z, .slice Q M.length q]) ∧ IntS w' A X ∧ IntS w' B Y ∧ IntS w' Q M ∧ X.length ≤ 25 ∧ Y.length ≤ 50 ∧ M.length ≤ 25 ∧ Bd X ∧ Bd Y ∧ (-9223372036854775808 ≤ z ∧ z ≤ 9223372036854775807) ∧ Bd M ∧ Below w.heap.size w w'
/-- Draws hand back a tree and a list. -/
def RetD2 (w : World) (e : Ending) (w' : World) : Prop := ∃ (X Y L : List Int) (A B P : Option Addr) (c d p : Nat), e = .returned (.tuple #[.agg #[.slice A X.length c, .slice B Y.length d], .slice P L.length p]) ∧ IntS w' A X ∧ IntS w' B Y ∧ IntS w' P L ∧ X.length ≤ 25 ∧ Y.length ≤ 50 ∧ L.length ≤ 25 ∧ Bd X ∧ Bd Y ∧ Bd L ∧ Below w.heap.size w w'
set_option maxHeartbeats 4000000 in
set_option maxRecDepth 100000 in
theorem drawGiven_any (C : Option Addr) (n cc : Nat) (w : World) (hB : Byt w C n) (hn : n ≤ 1000000) : Calls Try.prog 48 #[.slice C n cc] w (RetD3 w) := by
  have hne : ∀ b o, 0 < n → C = some ⟨b, o, none⟩ → b ≠ w.heap.size + 1 := fun b o h0 e => by have := byt_lt hB h0 e; omega
  have hC : ∀ W : World, w.heap.size ≤ W.heap.size → ∀ b o, 0 < n → C = some ⟨b, o, none⟩ → b < W.heap.size := fun W hW b o h0 e => by have := byt_lt hB h0 e; omega
  have HT := Lib.hid (fun W m (hs : Dr w W C n cc m) (hm : m + 200 ≤ 1000000) => tree_draw W hs.cur hs.byt hne (hC W hs.bel.size) hn hm)
  have HS := Lib.hid (fun W q m (hs : Dr w W C n cc m) (hq : 1 ≤ q ∧ q ≤ 24) (hm : m + 200 ≤ 1000000) => someTree_draw q W hs.cur hs.byt hne (hC W hs.bel.size) hm hn hq)
  have HD := Lib.hid (fun W W' m m' (hs : Dr w W C n cc m) (hd : Drew W (w.heap.size + 1) C n cc m' W') => hs.draw hne hd)
  have HL := Lib.hid (fun W m A B c d X Y (hs : Dr w W C n cc m) (hA : OwnS W (w.heap.size + 2) A X) (hY : OwnS W (w.heap.size + 2) B Y) (hm : m + 200 ≤ 1000000) bX bY hX hYl => event_draw W hs.cur hs.byt hne (hC W hs.bel.size) hn hm (w.heap.size + 2) A B c d X Y (by omega) hA hY bX bY hX hYl)
  have hdr := Dr.start w C n cc hB
  obtain ⟨w0, hw0⟩ : ∃ W, W = (w.alloc (.cells #[.slice none 0 0, .slice none 0 0] 28)).alloc (.cells #[.slice C n cc, .int .i64 0, .int .u64 0] 98) := ⟨_, rfl⟩
  rw [← hw0] at hdr
  have hs0 : w0.heap.size = w.heap.size + 2 := by rw [hw0]; simp
  clear hne hC hB
  go_enter Try.func48, Try.ntmps48
  go_wp2_with fail
  rw [← hw0]
  refine (HT.out _ _ hdr (by omega)).mono ?_
  rintro e1 w1 ⟨X, Y, A, B, c, d, rfl, hA, hY, hap, hX, hYl, bX, bY, hd⟩
  rw [hs0] at hA hY
  replace hdr := HD.out _ _ _ _ hdr hd
  clear hd hw0 hs0 HT HS
  go_upto_region 3 with (fail)
  obtain ⟨w2, hw2⟩ : ∃ W, W = w1.alloc (.cells #[.slice A X.length c, .slice B Y.length d] 28) := ⟨_, rfl⟩
  rw [← hw2]
  have hbA : Below w1.heap.size w1 w2 := by rw [hw2]; exact (Below.refl _ _).alloc (Nat.le_refl _) _
  have hbx : BlkT w2 w1.heap.size (.slice A X.length c) (.slice B Y.length d) := by rw [hw2]; exact BlkT.new w1 _ _ rfl
  have hgT := hdr.siz
  replace hdr := hdr.below hbA
  replace hA := hA.below hbA
  replace hY := hY.below hbA
  clear hw2 hbA
  generalize w1.heap.size = gT at *
  have t0 := hbx.c0
  have t1 := hbx.c1
  have hw := hdr.bel
  clear hbx
  refine wp_region_held_drew (S := fun w' => w'.cell? ⟨gT, 0, none⟩ = some (.slice A X.length c) ∧ w'.cell? ⟨gT, 1, none⟩ = some (.slice B Y.length d) ∧ Below w.heap.size w w') (by kernel_rfl) ⟨t0, t1, hw.drew⟩ (fun hHeld => ?_)
  refine wpAnyH_take (i := 0) (oi := ?oor1) (v := ?vvr1) ?hir1 (by kernel_rfl) (by kernel_rfl) (by kernel_rfl) ?hqr1 (Or.inl ⟨?hgr1, ?hyr1⟩) (by assumption) ?restr1
  case hir1 => simp only [List.getElem?_toArray, List.getElem?_cons_zero]; rfl
  case hqr1 => exact fun _ _ _ h => h
  case hgr1 => rfl
  case hyr1 =>
    intro wq hSw
    obtain ⟨t0, t1, hw⟩ := hSw
    go_simp
    (try with_reducible rfl)
  (try simp only [Act.put, List.setIfInBounds_toArray, List.set_cons_zero, List.set_cons_succ])
  refine wpAnyH_take (i := 1) (oi := ?oor2) (v := ?vvr2) ?hir2 (by kernel_rfl) (by kernel_rfl) (by kernel_rfl) ?hqr2 (Or.inl ⟨?hgr2, ?hyr2⟩) (by assumption) ?restr2
  case hir2 => simp only [List.getElem?_toArray, List.getElem?_cons_zero, List.getElem?_cons_succ]; rfl
  case hqr2 => exact fun _ _ _ h => h
  case hgr2 => rfl
  case hyr2 =>
    intro wq hSw
    obtain ⟨t0, t1, hw⟩ := hSw
    go_simp
    (try with_reducible rfl)
  (try simp only [Act.put, List.setIfInBounds_toArray, List.set_cons_zero, List.set_cons_succ])
  refine wpAnyH_take (i := 2) (oi := ?oor3) (v := ?vvr3) ?hir3 (by kernel_rfl) (by kernel_rfl) (by kernel_rfl) ?hqr3 (Or.inl ⟨?hgr3, ?hyr3⟩) (by assumption) ?restr3
  case hir3 => simp only [List.getElem?_toArray, List.getElem?_cons_zero, List.getElem?_cons_succ]; rfl
  case hqr3 => exact fun _ _ _ h => h
  case hgr3 => rfl
  case hyr3 =>
    intro wq hSw
    obtain ⟨t0, t1, hw⟩ := hSw
    go_simp
    (try with_reducible rfl)
  (try simp only [Act.put, List.setIfInBounds_toArray, List.set_cons_zero, List.set_cons_succ])
  refine wpAnyH_take (i := 4) (oi := ?oor4) (v := ?vvr4) ?hir4 (by kernel_rfl) (by kernel_rfl) (by kernel_rfl) ?hqr4 (Or.inl ⟨?hgr4, ?hyr4⟩) (by assumption) ?restr4
  case hir4 => simp only [List.getElem?_toArray, List.getElem?_cons_zero, List.getElem?_cons_succ]; rfl
  case hqr4 => exact fun _ _ _ h => h
  case hgr4 => rfl
  case hyr4 =>
    intro wq hSw
    obtain ⟨t0, t1, hw⟩ := hSw
    go_simp
    (try with_reducible rfl)
  (try simp only [Act.put, List.setIfInBounds_toArray, List.set_cons_zero, List.set_cons_succ])
  refine wpAnyH_take (i := 5) (oi := ?oor5) (v := ?vvr5) ?hir5 (by kernel_rfl) (by kernel_rfl) (by kernel_rfl) ?hqr5 (Or.inl ⟨?hgr5, ?hyr5⟩) (by assumption) ?restr5
  case hir5 => simp only [List.getElem?_toArray, List.getElem?_cons_zero, List.getElem?_cons_succ]; rfl
  case hqr5 => exact fun _ _ _ h => h
  case hgr5 => rfl
  case hyr5 =>
    intro wq hSw
    obtain ⟨t0, t1, hw⟩ := hSw
    go_simp
    (try with_reducible rfl)
  (try simp only [Act.put, List.setIfInBounds_toArray, List.set_cons_zero, List.set_cons_succ])
  refine wpAnyH_ready (rs := [3]) (by kernel_rfl) (by simp) ?_
  refine AllReadyH.cons (i := 3) (o := ?oor6) ?hor6 (fun K9 hK9 => ?hstepr6) AllReadyH.nil
  case hor6 => simp only [List.getElem?_toArray, List.getElem?_cons_zero, List.getElem?_cons_succ]; rfl
  go_simp
  replace hdr := hdr.below (Below.drew (Below.refl _ _))
  replace hA := hA.below (Below.drew (Below.refl _ _))
  replace hY := hY.below (Below.drew (Below.refl _ _))
  replace t0 : w2.drew.cell? ⟨gT, 0, none⟩ = some (.slice A X.length c) := t0
  replace t1 : w2.drew.cell? ⟨gT, 1, none⟩ = some (.slice B Y.length d) := t1
  replace hw := hw.drew
  clear hHeld
  refine (HL.out _ _ _ _ _ _ _ _ hdr hA hY (by omega) bX bY hX hYl).mono ?_
  rintro e1 wdr6 ⟨L, P, p, rfl, hoP, hlP, hbP, hd⟩
  replace hoP := hoP.mono (B' := w.heap.size + 2) hdr.siz
  replace hdr := HD.out _ _ _ _ hdr hd
  replace hA := hd.2.own hA (by omega) (by omega)
  replace hY := hd.2.own hY (by omega) (by omega)
  replace t0 := hd.2.cell t0 (by simp; omega) (by simp; omega)
  replace t1 := hd.2.cell t1 (by simp; omega) (by simp; omega)
  replace hw := hd.2.below hw (by omega) (by omega)
  clear hd
  go_wp2_with fail
  refine hK9.out _ _ ⟨t0, t1, hw⟩ (fun hHeld => ?_)
  clear hK9 K9
  (try simp only [Act.put, List.setIfInBounds_toArray, List.set_cons_zero, List.set_cons_succ])
  refine wpAnyH_ready (rs := [6]) (by kernel_rfl) (by simp) ?_
  refine AllReadyH.cons (i := 6) (o := ?oor7) ?hor7 (fun K9 hK9 => ?hstepr7) AllReadyH.nil
  case hor7 => simp only [List.getElem?_toArray, List.getElem?_cons_zero, List.getElem?_cons_succ]; rfl
  go_simp
  clear hHeld
  refine (HL.out _ _ _ _ _ _ _ _ hdr hA hY (by omega) bX bY hX hYl).mono ?_
  rintro e1 wdr7 ⟨M, Q, q, rfl, hoQ, hlQ, hbQ, hd⟩
  replace hoQ := hoQ.mono (B' := w.heap.size + 2) hdr.siz
  replace hdr := HD.out _ _ _ _ hdr hd
  replace hA := hd.2.own hA (by omega) (by omega)
  replace hY := hd.2.own hY (by omega) (by omega)
  replace hoP := hd.2.own hoP (by omega) (by omega)
  replace t0 := hd.2.cell t0 (by simp; omega) (by simp; omega)
  replace t1 := hd.2.cell t1 (by simp; omega) (by simp; omega)
  replace hw := hd.2.below hw (by omega) (by omega)
  clear hd
  go_wp2_with fail
  refine hK9.out _ _ ⟨t0, t1, hw⟩ (fun hHeld => ?_)
  clear hK9 K9
  (try simp only [Act.put, List.setIfInBounds_toArray, List.set_cons_zero, List.set_cons_succ])
  refine wpAnyH_ready (rs := [7]) (by kernel_rfl) (by simp) ?_
  refine AllReadyH.cons (i := 7) (o := ?oor8) ?hor8 (fun K9 hK9 => ?hstepr8) AllReadyH.nil
  case hor8 => simp only [List.getElem?_toArray, List.getElem?_cons_zero, List.getElem?_cons_succ]; rfl
  have r0 := hdr.res.c0
  have r1 := hdr.res.c1
  have rf0 := hdr.res.free 0
  have rf1 := hdr.res.free 1
  go_simp
  clear hHeld
  refine hK9.out _ _ ⟨cell_far (g := w.heap.size) (cell_far (g := w.heap.size) t0 (by simp; omega) 0) (by simp; omega) 1, cell_far (g := w.heap.size) (cell_far (g := w.heap.size) t1 (by simp; omega) 0) (by simp; omega) 1, Below.setCell' (p := ⟨w.heap.size, 1, none⟩) (by simp) (Below.setCell' (p := ⟨w.heap.size, 0, none⟩) (by simp) hw _) _⟩ (fun hHeld => ?_)
  clear hK9 K9
  (try simp only [Act.put, List.setIfInBounds_toArray, List.set_cons_zero, List.set_cons_succ])
  refine wpAnyH_name hHeld (fun wyr8 hHa hwz => ?_)
  replace t0 : wyr8.cell? ⟨gT, 0, none⟩ = some (.slice A X.length c) := by rw [hwz]; exact cell_far (g := w.heap.size) (cell_far (g := w.heap.size) t0 (by simp; omega) 0) (by simp; omega) 1
  replace t1 : wyr8.cell? ⟨gT, 1, none⟩ = some (.slice B Y.length d) := by rw [hwz]; exact cell_far (g := w.heap.size) (cell_far (g := w.heap.size) t1 (by simp; omega) 0) (by simp; omega) 1
  replace hw : Below w.heap.size w wyr8 := by rw [hwz]; exact Below.setCell' (p := ⟨w.heap.size, 1, none⟩) (by simp) (Below.setCell' (p := ⟨w.heap.size, 0, none⟩) (by simp) hw _) _
  have hkb := (((KeptBut.refl2 wdr7 w.heap.size).setg 0 (.slice A X.length c)).setg 1 (.slice B Y.length d))
  rw [← hwz] at hkb
  replace hA := hkb.own hA (by omega) (by omega)
  replace hY := hkb.own hY (by omega) (by omega)
  replace hoP := hkb.own hoP (by omega) (by omega)
  replace hoQ := hkb.own hoQ (by omega) (by omega)
  have hres : BlkT wyr8 w.heap.size (.slice A X.length c) (.slice B Y.length d) := by rw [hwz]; exact (hdr.res.set0 _).set1 _
  clear hdr r0 r1 rf0 rf1 hkb
  clear hHeld hwz
  have hHeld := hHa
  clear hHa
  refine wpAnyH_take (i := 8) (oi := ?oor9) (v := ?vvr9) ?hir9 (by kernel_rfl) (by kernel_rfl) (by kernel_rfl) ?hqr9 (Or.inl ⟨?hgr9, ?hyr9⟩) (by assumption) ?restr9
  case hir9 => simp only [List.getElem?_toArray, List.getElem?_cons_zero, List.getElem?_cons_succ]; rfl
  case hqr9 => exact fun _ _ _ h => h
  case hgr9 => rfl
  case hyr9 =>
    intro wq hSw
    obtain ⟨t0, t1, hw⟩ := hSw
    go_simp
    (try with_reducible rfl)
  (try simp only [Act.put, List.setIfInBounds_toArray, List.set_cons_zero, List.set_cons_succ])
  refine wpAnyH_take (i := 9) (oi := ?oor10) (v := ?vvr10) ?hir10 (by kernel_rfl) (by kernel_rfl) (by kernel_rfl) ?hqr10 (Or.inl ⟨?hgr10, ?hyr10⟩) (by assumption) ?restr10
  case hir10 => simp only [List.getElem?_toArray, List.getElem?_cons_zero, List.getElem?_cons_succ]; rfl
  case hqr10 => exact fun _ _ _ h => h
  case hgr10 => rfl
  case hyr10 =>
    intro wq hSw
    obtain ⟨t0, t1, hw⟩ := hSw
    go_simp
    (try with_reducible rfl)
  (try simp only [Act.put, List.setIfInBounds_toArray, List.set_cons_zero, List.set_cons_succ])
  clear hHeld
  refine wpAnyH_done (by kernel_rfl) ?_ _
  have r0 := hres.c0
  have r1 := hres.c1
  have hw9 := Lib.hid hw
  clear hres hw t0 t1
  go_wp2
  refine bodyPost_ret (v := .tuple #[.agg #[.slice A X.length c, .slice B Y.length d], .slice P L.length p, .slice Q M.length q]) (by simp (maxDischargeDepth := 9) [results, Try.results48, go_sem, *]) rfl ⟨X, Y, L, M, A, B, P, Q, c, d, p, q, rfl, hA.ints, hY.ints, hoP.ints, hoQ.ints, hX, hYl, hlP, hlQ, bX, bY, hbP, hbQ, hw9.out⟩
set_option maxHeartbeats 4000000 in
set_option maxRecDepth 100000 in
theorem drawCov_any (C : Option Addr) (n cc : Nat) (w : World) (hB : Byt w C n) (hn : n ≤ 1000000) : Calls Try.prog 65 #[.slice C n cc] w (RetD3 w) := by
  have hne : ∀ b o, 0 < n → C = some ⟨b, o, none⟩ → b ≠ w.heap.size + 1 := fun b o h0 e => by have := byt_lt hB h0 e; omega
  have hC : ∀ W : World, w.heap.size ≤ W.heap.size → ∀ b o, 0 < n → C = some ⟨b, o, none⟩ → b < W.heap.size := fun W hW b o h0 e => by have := byt_lt hB h0 e; omega
  have HT := Lib.hid (fun W m (hs : Dr w W C n cc m) (hm : m + 200 ≤ 1000000) => tree_draw W hs.cur hs.byt hne (hC W hs.bel.size) hn hm)
  have HS := Lib.hid (fun W q m (hs : Dr w W C n cc m) (hq : 1 ≤ q ∧ q ≤ 24) (hm : m + 200 ≤ 1000000) => someTree_draw q W hs.cur hs.byt hne (hC W hs.bel.size) hm hn hq)
  have HD := Lib.hid (fun W W' m m' (hs : Dr w W C n cc m) (hd : Drew W (w.heap.size + 1) C n cc m' W') => hs.draw hne hd)
  have HL := Lib.hid (fun W m A B c d X Y (hs : Dr w W C n cc m) (hA : OwnS W (w.heap.size + 2) A X) (hY : OwnS W (w.heap.size + 2) B Y) (hm : m + 200 ≤ 1000000) bX bY hX hYl => endPays_draw W hs.cur hs.byt hne (hC W hs.bel.size) hn hm (w.heap.size + 2) A B c d X Y (by omega) hA hY bX bY hX hYl)
  have hdr := Dr.start w C n cc hB
  obtain ⟨w0, hw0⟩ : ∃ W, W = (w.alloc (.cells #[.slice none 0 0, .slice none 0 0] 28)).alloc (.cells #[.slice C n cc, .int .i64 0, .int .u64 0] 98) := ⟨_, rfl⟩
  rw [← hw0] at hdr
  have hs0 : w0.heap.size = w.heap.size + 2 := by rw [hw0]; simp
  clear hne hC hB
  go_enter Try.func65, Try.ntmps65
  go_wp2_with fail
  rw [← hw0]
  refine (HT.out _ _ hdr (by omega)).mono ?_
  rintro e1 w1 ⟨X, Y, A, B, c, d, rfl, hA, hY, hap, hX, hYl, bX, bY, hd⟩
  rw [hs0] at hA hY
  replace hdr := HD.out _ _ _ _ hdr hd
  clear hd hw0 hs0 HT HS
  go_upto_region 3 with (fail)
  obtain ⟨w2, hw2⟩ : ∃ W, W = w1.alloc (.cells #[.slice A X.length c, .slice B Y.length d] 28) := ⟨_, rfl⟩
  rw [← hw2]
  have hbA : Below w1.heap.size w1 w2 := by rw [hw2]; exact (Below.refl _ _).alloc (Nat.le_refl _) _
  have hbx : BlkT w2 w1.heap.size (.slice A X.length c) (.slice B Y.length d) := by rw [hw2]; exact BlkT.new w1 _ _ rfl
  have hgT := hdr.siz
  replace hdr := hdr.below hbA
  replace hA := hA.below hbA
  replace hY := hY.below hbA
  clear hw2 hbA
  generalize w1.heap.size = gT at *
  have t0 := hbx.c0
  have t1 := hbx.c1
  have hw := hdr.bel
  clear hbx
  refine wp_region_held_drew (S := fun w' => w'.cell? ⟨gT, 0, none⟩ = some (.slice A X.length c) ∧ w'.cell? ⟨gT, 1, none⟩ = some (.slice B Y.length d) ∧ Below w.heap.size w w') (by kernel_rfl) ⟨t0, t1, hw.drew⟩ (fun hHeld => ?_)
  refine wpAnyH_take (i := 0) (oi := ?oor1) (v := ?vvr1) ?hir1 (by kernel_rfl) (by kernel_rfl) (by kernel_rfl) ?hqr1 (Or.inl ⟨?hgr1, ?hyr1⟩) (by assumption) ?restr1
  case hir1 => simp only [List.getElem?_toArray, List.getElem?_cons_zero]; rfl
  case hqr1 => exact fun _ _ _ h => h
  case hgr1 => rfl
  case hyr1 =>
    intro wq hSw
    obtain ⟨t0, t1, hw⟩ := hSw
    go_simp
    (try with_reducible rfl)
  (try simp only [Act.put, List.setIfInBounds_toArray, List.set_cons_zero, List.set_cons_succ])
  refine wpAnyH_take (i := 1) (oi := ?oor2) (v := ?vvr2) ?hir2 (by kernel_rfl) (by kernel_rfl) (by kernel_rfl) ?hqr2 (Or.inl ⟨?hgr2, ?hyr2⟩) (by assumption) ?restr2
  case hir2 => simp only [List.getElem?_toArray, List.getElem?_cons_zero, List.getElem?_cons_succ]; rfl
  case hqr2 => exact fun _ _ _ h => h
  case hgr2 => rfl
  case hyr2 =>
    intro wq hSw
    obtain ⟨t0, t1, hw⟩ := hSw
    go_simp
    (try with_reducible rfl)
  (try simp only [Act.put, List.setIfInBounds_toArray, List.set_cons_zero, List.set_cons_succ])
  refine wpAnyH_take (i := 2) (oi := ?oor3) (v := ?vvr3) ?hir3 (by kernel_rfl) (by kernel_rfl) (by kernel_rfl) ?hqr3 (Or.inl ⟨?hgr3, ?hyr3⟩) (by assumption) ?restr3
  case hir3 => simp only [List.getElem?_toArray, List.getElem?_cons_zero, List.getElem?_cons_succ]; rfl
  case hqr3 => exact fun _ _ _ h => h
  case hgr3 => rfl
  case hyr3 =>
    intro wq hSw
    obtain ⟨t0, t1, hw⟩ := hSw
    go_simp
    (try with_reducible rfl)
  (try simp only [Act.put, List.setIfInBounds_toArray, List.set_cons_zero, List.set_cons_succ])
  refine wpAnyH_take (i := 4) (oi := ?oor4) (v := ?vvr4) ?hir4 (by kernel_rfl) (by kernel_rfl) (by kernel_rfl) ?hqr4 (Or.inl ⟨?hgr4, ?hyr4⟩) (by assumption) ?restr4
  case hir4 => simp only [List.getElem?_toArray, List.getElem?_cons_zero, List.getElem?_cons_succ]; rfl
  case hqr4 => exact fun _ _ _ h => h
  case hgr4 => rfl
  case hyr4 =>
    intro wq hSw
    obtain ⟨t0, t1, hw⟩ := hSw
    go_simp
    (try with_reducible rfl)
  (try simp only [Act.put, List.setIfInBounds_toArray, List.set_cons_zero, List.set_cons_succ])
  refine wpAnyH_take (i := 5) (oi := ?oor5) (v := ?vvr5) ?hir5 (by kernel_rfl) (by kernel_rfl) (by kernel_rfl) ?hqr5 (Or.inl ⟨?hgr5, ?hyr5⟩) (by assumption) ?restr5
  case hir5 => simp only [List.getElem?_toArray, List.getElem?_cons_zero, List.getElem?_cons_succ]; rfl
  case hqr5 => exact fun _ _ _ h => h
  case hgr5 => rfl
  case hyr5 =>
    intro wq hSw
    obtain ⟨t0, t1, hw⟩ := hSw
    go_simp
    (try with_reducible rfl)
  (try simp only [Act.put, List.setIfInBounds_toArray, List.set_cons_zero, List.set_cons_succ])
  refine wpAnyH_ready (rs := [3]) (by kernel_rfl) (by simp) ?_
  refine AllReadyH.cons (i := 3) (o := ?oor6) ?hor6 (fun K9 hK9 => ?hstepr6) AllReadyH.nil
  case hor6 => simp only [List.getElem?_toArray, List.getElem?_cons_zero, List.getElem?_cons_succ]; rfl
  go_simp
  replace hdr := hdr.below (Below.drew (Below.refl _ _))
  replace hA := hA.below (Below.drew (Below.refl _ _))
  replace hY := hY.below (Below.drew (Below.refl _ _))
  replace t0 : w2.drew.cell? ⟨gT, 0, none⟩ = some (.slice A X.length c) := t0
  replace t1 : w2.drew.cell? ⟨gT, 1, none⟩ = some (.slice B Y.length d) := t1
  replace hw := hw.drew
  clear hHeld
  refine (HL.out _ _ _ _ _ _ _ _ hdr hA hY (by omega) bX bY hX hYl).mono ?_
  rintro e1 wdr6 ⟨L, P, p, rfl, hoP, hlP, hbP, hd⟩
  replace hoP := hoP.mono (B' := w.heap.size + 2) hdr.siz
  replace hdr := HD.out _ _ _ _ hdr hd
  replace hA := hd.2.own hA (by omega) (by omega)
  replace hY := hd.2.own hY (by omega) (by omega)
  replace t0 := hd.2.cell t0 (by simp; omega) (by simp; omega)
  replace t1 := hd.2.cell t1 (by simp; omega) (by simp; omega)
  replace hw := hd.2.below hw (by omega) (by omega)
  clear hd
  go_wp2_with fail
  refine hK9.out _ _ ⟨t0, t1, hw⟩ (fun hHeld => ?_)
  clear hK9 K9
  (try simp only [Act.put, List.setIfInBounds_toArray, List.set_cons_zero, List.set_cons_succ])
  refine wpAnyH_ready (rs := [6]) (by kernel_rfl) (by simp) ?_
  refine AllReadyH.cons (i := 6) (o := ?oor7) ?hor7 (fun K9 hK9 => ?hstepr7) AllReadyH.nil
  case hor7 => simp only [List.getElem?_toArray, List.getElem?_cons_zero, List.getElem?_cons_succ]; rfl
  go_simp
  clear hHeld
  refine (HL.out _ _ _ _ _ _ _ _ hdr hA hY (by omega) bX bY hX hYl).mono ?_
  rintro e1 wdr7 ⟨M, Q, q, rfl, hoQ, hlQ, hbQ, hd⟩
  replace hoQ := hoQ.mono (B' := w.heap.size + 2) hdr.siz
  replace hdr := HD.out _ _ _ _ hdr hd
  replace hA := hd.2.own hA (by omega) (by omega)
  replace hY := hd.2.own hY (by omega) (by omega)
  replace hoP := hd.2.own hoP (by omega) (by omega)
  replace t0 := hd.2.cell t0 (by simp; omega) (by simp; omega)
  replace t1 := hd.2.cell t1 (by simp; omega) (by simp; omega)
  replace hw := hd.2.below hw (by omega) (by omega)
  clear hd
  go_wp2_with fail
  refine hK9.out _ _ ⟨t0, t1, hw⟩ (fun hHeld => ?_)
  clear hK9 K9
  (try simp only [Act.put, List.setIfInBounds_toArray, List.set_cons_zero, List.set_cons_succ])
  refine wpAnyH_ready (rs := [7]) (by kernel_rfl) (by simp) ?_
  refine AllReadyH.cons (i := 7) (o := ?oor8) ?hor8 (fun K9 hK9 => ?hstepr8) AllReadyH.nil
  case hor8 => simp only [List.getElem?_toArray, List.getElem?_cons_zero, List.getElem?_cons_succ]; rfl
  have r0 := hdr.res.c0
  have r1 := hdr.res.c1
  have rf0 := hdr.res.free 0
  have rf1 := hdr.res.free 1
  go_simp
  clear hHeld
  refine hK9.out _ _ ⟨cell_far (g := w.heap.size) (cell_far (g := w.heap.size) t0 (by simp; omega) 0) (by simp; omega) 1, cell_far (g := w.heap.size) (cell_far (g := w.heap.size) t1 (by simp; omega) 0) (by simp; omega) 1, Below.setCell' (p := ⟨w.heap.size, 1, none⟩) (by simp) (Below.setCell' (p := ⟨w.heap.size, 0, none⟩) (by simp) hw _) _⟩ (fun hHeld => ?_)
  clear hK9 K9
  (try simp only [Act.put, List.setIfInBounds_toArray, List.set_cons_zero, List.set_cons_succ])
  refine wpAnyH_name hHeld (fun wyr8 hHa hwz => ?_)
  replace t0 : wyr8.cell? ⟨gT, 0, none⟩ = some (.slice A X.length c) := by rw [hwz]; exact cell_far (g := w.heap.size) (cell_far (g := w.heap.size) t0 (by simp; omega) 0) (by simp; omega) 1
  replace t1 : wyr8.cell? ⟨gT, 1, none⟩ = some (.slice B Y.length d) := by rw [hwz]; exact cell_far (g := w.heap.size) (cell_far (g := w.heap.size) t1 (by simp; omega) 0) (by simp; omega) 1
  replace hw : Below w.heap.size w wyr8 := by rw [hwz]; exact Below.setCell' (p := ⟨w.heap.size, 1, none⟩) (by simp) (Below.setCell' (p := ⟨w.heap.size, 0, none⟩) (by simp) hw _) _
  have hkb := (((KeptBut.refl2 wdr7 w.heap.size).setg 0 (.slice A X.length c)).setg 1 (.slice B Y.length d))
  rw [← hwz] at hkb
  replace hA := hkb.own hA (by omega) (by omega)
  replace hY := hkb.own hY (by omega) (by omega)
  replace hoP := hkb.own hoP (by omega) (by omega)
  replace hoQ := hkb.own hoQ (by omega) (by omega)
  have hres : BlkT wyr8 w.heap.size (.slice A X.length c) (.slice B Y.length d) := by rw [hwz]; exact (hdr.res.set0 _).set1 _
  clear hdr r0 r1 rf0 rf1 hkb
  clear hHeld hwz
  have hHeld := hHa
  clear hHa
  refine wpAnyH_take (i := 8) (oi := ?oor9) (v := ?vvr9) ?hir9 (by kernel_rfl) (by kernel_rfl) (by kernel_rfl) ?hqr9 (Or.inl ⟨?hgr9, ?hyr9⟩) (by assumption) ?restr9
  case hir9 => simp only [List.getElem?_toArray, List.getElem?_cons_zero, List.getElem?_cons_succ]; rfl
  case hqr9 => exact fun _ _ _ h => h
  case hgr9 => rfl
  case hyr9 =>
    intro wq hSw
    obtain ⟨t0, t1, hw⟩ := hSw
    go_simp
    (try with_reducible rfl)
  (try simp only [Act.put, List.setIfInBounds_toArray, List.set_cons_zero, List.set_cons_succ])
  refine wpAnyH_take (i := 9) (oi := ?oor10) (v := ?vvr10) ?hir10 (by kernel_rfl) (by kernel_rfl) (by kernel_rfl) ?hqr10 (Or.inl ⟨?hgr10, ?hyr10⟩) (by assumption) ?restr10
  case hir10 => simp only [List.getElem?_toArray, List.getElem?_cons_zero, List.getElem?_cons_succ]; rfl
  case hqr10 => exact fun _ _ _ h => h
  case hgr10 => rfl
  case hyr10 =>
    intro wq hSw
    obtain ⟨t0, t1, hw⟩ := hSw
    go_simp
    (try with_reducible rfl)
  (try simp only [Act.put, List.setIfInBounds_toArray, List.set_cons_zero, List.set_cons_succ])
  clear hHeld
  refine wpAnyH_done (by kernel_rfl) ?_ _
  have r0 := hres.c0
  have r1 := hres.c1
  have hw9 := Lib.hid hw
  clear hres hw t0 t1
  go_wp2
  refine bodyPost_ret (v := .tuple #[.agg #[.slice A X.length c, .slice B Y.length d], .slice P L.length p, .slice Q M.length q]) (by simp (maxDischargeDepth := 9) [results, Try.results65, go_sem, *]) rfl ⟨X, Y, L, M, A, B, P, Q, c, d, p, q, rfl, hA.ints, hY.ints, hoP.ints, hoQ.ints, hX, hYl, hlP, hlQ, bX, bY, hbP, hbQ, hw9.out⟩
set_option maxHeartbeats 4000000 in
set_option maxRecDepth 100000 in
theorem drawPaysCut_any (C : Option Addr) (n cc : Nat) (w : World) (hB : Byt w C n) (hn : n ≤ 1000000) : Calls Try.prog 70 #[.slice C n cc] w (RetDI w) := by
  have hne : ∀ b o, 0 < n → C = some ⟨b, o, none⟩ → b ≠ w.heap.size + 1 := fun b o h0 e => by have := byt_lt hB h0 e; omega
  have hC : ∀ W : World, w.heap.size ≤ W.heap.size → ∀ b o, 0 < n → C = some ⟨b, o, none⟩ → b < W.heap.size := fun W hW b o h0 e => by have := byt_lt hB h0 e; omega
  have HT := Lib.hid (fun W m (hs : Dr w W C n cc m) (hm : m + 200 ≤ 1000000) => tree_draw W hs.cur hs.byt hne (hC W hs.bel.size) hn hm)
  have HS := Lib.hid (fun W q m (hs : Dr w W C n cc m) (hq : 1 ≤ q ∧ q ≤ 24) (hm : m + 200 ≤ 1000000) => someTree_draw q W hs.cur hs.byt hne (hC W hs.bel.size) hm hn hq)
  have HD := Lib.hid (fun W W' m m' (hs : Dr w W C n cc m) (hd : Drew W (w.heap.size + 1) C n cc m' W') => hs.draw hne hd)
  have HP := Lib.hid (fun W (p : Int) m (hs : Dr w W C n cc m) (hm : m + 1 ≤ 1000000) (hp : 1 ≤ p ∧ p ≤ 1000000000) => pick_draw p W hs.cur hs.byt hne hm hn hp)
  have HO := Lib.hid (fun W (p : Int) m (hs : Dr w W C n cc m) (hm : m + 1 ≤ 1000000) (hp : 1 ≤ p ∧ p ≤ 1000000000) => one_draw p W hs.cur hs.byt hne hm hn hp)
  have HA := Lib.hid (fun W (A : Option Addr) (c : Nat) (xs : List Int) m (hs : Dr w W C n cc m) (hm : m + 1 ≤ 1000000) (b : IntS W A xs) (d : ∀ b o, A = some ⟨b, o, none⟩ → b ≠ w.heap.size + 1) (e : 1 ≤ xs.length ∧ xs.length ≤ 1000) => among_draw A c xs W hs.cur hs.byt hne hm hn b d e)
  have HY := Lib.hid (fun W (q : Nat) m (hs : Dr w W C n cc m) (hm : m + 100 ≤ 1000000) (hq : q ≤ 24) => somePays_draw q W hs.cur hs.byt hne (hC W hs.bel.size) hm hn hq)
  have HL := Lib.hid (fun W m A B c d X Y (hs : Dr w W C n cc m) (hA : OwnS W (w.heap.size + 2) A X) (hY : OwnS W (w.heap.size + 2) B Y) (hm : m + 200 ≤ 1000000) bX bY hX hYl => endPays_draw W hs.cur hs.byt hne (hC W hs.bel.size) hn hm (w.heap.size + 2) A B c d X Y (by omega) hA hY bX bY hX hYl)
  have hdr := Dr.start w C n cc hB
  obtain ⟨w0, hw0⟩ : ∃ W, W = (w.alloc (.cells #[.slice none 0 0, .slice none 0 0] 28)).alloc (.cells #[.slice C n cc, .int .i64 0, .int .u64 0] 98) := ⟨_, rfl⟩
  rw [← hw0] at hdr
  have hs0 : w0.heap.size = w.heap.size + 2 := by rw [hw0]; simp
  have HR7 : Hid (∀ j, j < 7 → -1 ≤ nth ([1, 2, 0, 3, 4, 24, -1] : List Int) j ∧ nth ([1, 2, 0, 3, 4, 24, -1] : List Int) j ≤ 24) := by show ∀ j, j < 7 → _; decide
  have HL7 : Hid ((i64s ([1, 2, 0, 3, 4, 24, -1] : List Int)).toArray = #[.int .i64 1, .int .i64 2, .int .i64 0, .int .i64 3, .int .i64 4, .int .i64 24, .int .i64 (-1)]) := rfl
  clear hne hC hB HL HP HO HS
  go_enter Try.func70, Try.ntmps70
  go_wp2_with fail
  rw [← hw0]
  refine (HT.out _ _ hdr (by omega)).mono ?_
  rintro e1 w1 ⟨X, Y, A, B, c, d, rfl, hA, hY, hap, hX, hYl, bX, bY, hd⟩
  rw [hs0] at hA hY
  replace hdr := HD.out _ _ _ _ hdr hd
  clear hd hw0 hs0 HT hap
  have HGd := Lib.hid (fun W (h : OwnS W (w.heap.size + 2) A X) (k : OwnS W (w.heap.size + 2) B Y) => l2Good_any A B c d X Y W h.ints k.ints bX bY (by omega) (by omega))
  have hI := list_IntS w1 ([1, 2, 0, 3, 4, 24, -1] : List Int) (by decide)
  rw [HL7.out] at hI
  have hgl := hdr.siz
  have hbA : Below w1.heap.size w1 (w1.alloc (.cells #[.int .i64 1, .int .i64 2, .int .i64 0, .int .i64 3, .int .i64 4, .int .i64 24, .int .i64 (-1)] 3)) := (Below.refl _ _).alloc (Nat.le_refl _) _
  replace hdr := hdr.below hbA
  replace hA := hA.below hbA
  replace hY := hY.below hbA
  clear hbA
  go_wp2_with fail
  refine (HA.out _ _ 7 ([1, 2, 0, 3, 4, 24, -1] : List Int) _ hdr (by omega) hI (fun b o e => by injection e with e; injection e with e; omega) (by decide)).mono ?_
  rintro e1 w2 ⟨j1, hj1, rfl, hd⟩
  have hz7 := HR7.out j1 hj1
  generalize nth ([1, 2, 0, 3, 4, 24, -1] : List Int) j1 = z at *
  have hz : -9223372036854775808 ≤ z ∧ z ≤ 9223372036854775807 := by omega
  replace hdr := HD.out _ _ _ _ hdr hd
  replace hA := hd.2.own hA (by omega) (by omega)
  replace hY := hd.2.own hY (by omega) (by omega)
  clear hd hI hgl hj1 HR7 HL7 HA
  go_upto_region 3 with (fail)
  obtain ⟨w3, hw3⟩ : ∃ W, W = w2.alloc (.cells #[.slice A X.length c, .slice B Y.length d] 28) := ⟨_, rfl⟩
  rw [← hw3]
  have hbA : Below w2.heap.size w2 w3 := by rw [hw3]; exact (Below.refl _ _).alloc (Nat.le_refl _) _
  have hbx : BlkT w3 w2.heap.size (.slice A X.length c) (.slice B Y.length d) := by rw [hw3]; exact BlkT.new w2 _ _ rfl
  have hgT := hdr.siz
  replace hdr := hdr.below hbA
  replace hA := hA.below hbA
  replace hY := hY.below hbA
  clear hw3 hbA
  generalize w2.heap.size = gT at *
  obtain ⟨r, hr⟩ : ∃ r, good X Y = r := ⟨_, rfl⟩
  rw [hr] at HGd
  have Hr := Lib.hid hr
  clear hr
  have t0 := hbx.c0
  have t1 := hbx.c1
  go_wp2_with fail
  refine (HGd.out _ hA hY).mono ?_
  rintro e1 w4 ⟨rfl, hb⟩
  replace hdr := hdr.below hb
  replace hA := hA.below hb
  replace hY := hY.below hb
  replace hbx := hbx.below hb
  clear hb t0 t1 HGd
  cases r with
  | false =>
    go_upto_region 6 with (fail)
    have t0 := hbx.c0
    have t1 := hbx.c1
    have hw := hdr.bel
    clear hbx
    refine wp_region_held_drew (S := fun w' => w'.cell? ⟨gT, 0, none⟩ = some (.slice A X.length c) ∧ w'.cell? ⟨gT, 1, none⟩ = some (.slice B Y.length d) ∧ Below w.heap.size w w') (by kernel_rfl) ⟨t0, t1, hw.drew⟩ (fun hHeld => ?_)
    refine wpAnyH_take (i := 0) (oi := ?oox1) (v := ?vvx1) ?hix1 (by kernel_rfl) (by kernel_rfl) (by kernel_rfl) ?hqx1 (Or.inl ⟨?hgx1, ?hyx1⟩) (by assumption) ?restx1
    case hix1 => simp only [List.getElem?_toArray, List.getElem?_cons_zero]; rfl
    case hqx1 => exact fun _ _ _ h => h
    case hgx1 => rfl
    case hyx1 =>
      intro wq hSw
      obtain ⟨t0, t1, hw⟩ := hSw
      go_simp
      (try with_reducible rfl)
    (try simp only [Act.put, List.setIfInBounds_toArray, List.set_cons_zero, List.set_cons_succ])
    refine wpAnyH_take (i := 1) (oi := ?oox2) (v := ?vvx2) ?hix2 (by kernel_rfl) (by kernel_rfl) (by kernel_rfl) ?hqx2 (Or.inl ⟨?hgx2, ?hyx2⟩) (by assumption) ?restx2
    case hix2 => simp only [List.getElem?_toArray, List.getElem?_cons_zero, List.getElem?_cons_succ]; rfl
    case hqx2 => exact fun _ _ _ h => h
    case hgx2 => rfl
    case hyx2 =>
      intro wq hSw
      obtain ⟨t0, t1, hw⟩ := hSw
      go_simp
      (try with_reducible rfl)
    (try simp only [Act.put, List.setIfInBounds_toArray, List.set_cons_zero, List.set_cons_succ])
    refine wpAnyH_take (i := 2) (oi := ?oox3) (v := ?vvx3) ?hix3 (by kernel_rfl) (by kernel_rfl) (by kernel_rfl) ?hqx3 (Or.inl ⟨?hgx3, ?hyx3⟩) (by assumption) ?restx3
    case hix3 => simp only [List.getElem?_toArray, List.getElem?_cons_zero, List.getElem?_cons_succ]; rfl
    case hqx3 => exact fun _ _ _ h => h
    case hgx3 => rfl
    case hyx3 =>
      intro wq hSw
      obtain ⟨t0, t1, hw⟩ := hSw
      go_simp
      (try with_reducible rfl)
    (try simp only [Act.put, List.setIfInBounds_toArray, List.set_cons_zero, List.set_cons_succ])
    refine wpAnyH_take (i := 3) (oi := ?oox4) (v := ?vvx4) ?hix4 (by kernel_rfl) (by kernel_rfl) (by kernel_rfl) ?hqx4 (Or.inl ⟨?hgx4, ?hyx4⟩) (by assumption) ?restx4
    case hix4 => simp only [List.getElem?_toArray, List.getElem?_cons_zero, List.getElem?_cons_succ]; rfl
    case hqx4 => exact fun _ _ _ h => h
    case hgx4 => rfl
    case hyx4 =>
      intro wq hSw
      obtain ⟨t0, t1, hw⟩ := hSw
      go_simp
      (try with_reducible rfl)
    (try simp only [Act.put, List.setIfInBounds_toArray, List.set_cons_zero, List.set_cons_succ])
    refine wpAnyH_ready (rs := [4]) (by kernel_rfl) (by simp) ?_
    refine AllReadyH.cons (i := 4) (o := ?oox5) ?hox5 (fun K9 hK9 => ?hstepx5) AllReadyH.nil
    case hox5 => simp only [List.getElem?_toArray, List.getElem?_cons_zero, List.getElem?_cons_succ]; rfl
    go_simp
    replace hdr := hdr.below (Below.drew (Below.refl _ _))
    replace hA := hA.below (Below.drew (Below.refl _ _))
    replace hY := hY.below (Below.drew (Below.refl _ _))
    replace t0 : w4.drew.cell? ⟨gT, 0, none⟩ = some (.slice A X.length c) := t0
    replace t1 : w4.drew.cell? ⟨gT, 1, none⟩ = some (.slice B Y.length d) := t1
    replace hw := hw.drew
    clear hHeld
    refine (HY.out _ 2 _ hdr (by omega) (by omega)).mono ?_
    rintro e1 wdx5 ⟨M, Q, q9, rfl, hoQ, hlQ, hbQ, hd⟩
    replace hoQ := hoQ.mono (B' := w.heap.size + 2) hdr.siz
    replace hdr := HD.out _ _ _ _ hdr hd
    replace hA := hd.2.own hA (by omega) (by omega)
    replace hY := hd.2.own hY (by omega) (by omega)
    replace t0 := hd.2.cell t0 (by simp; omega) (by simp; omega)
    replace t1 := hd.2.cell t1 (by simp; omega) (by simp; omega)
    replace hw := hd.2.below hw (by omega) (by omega)
    clear hd
    go_wp2_with fail
    refine hK9.out _ _ ⟨t0, t1, hw⟩ (fun hHeld => ?_)
    clear hK9 K9
    (try simp only [Act.put, List.setIfInBounds_toArray, List.set_cons_zero, List.set_cons_succ])
    refine wpAnyH_ready (rs := [5]) (by kernel_rfl) (by simp) ?_
    refine AllReadyH.cons (i := 5) (o := ?oox6) ?hox6 (fun K9 hK9 => ?hstepx6) AllReadyH.nil
    case hox6 => simp only [List.getElem?_toArray, List.getElem?_cons_zero, List.getElem?_cons_succ]; rfl
    have r0 := hdr.res.c0
    have r1 := hdr.res.c1
    have rf0 := hdr.res.free 0
    have rf1 := hdr.res.free 1
    go_simp
    clear hHeld
    refine hK9.out _ _ ⟨cell_far (g := w.heap.size) (cell_far (g := w.heap.size) t0 (by simp; omega) 0) (by simp; omega) 1, cell_far (g := w.heap.size) (cell_far (g := w.heap.size) t1 (by simp; omega) 0) (by simp; omega) 1, Below.setCell' (p := ⟨w.heap.size, 1, none⟩) (by simp) (Below.setCell' (p := ⟨w.heap.size, 0, none⟩) (by simp) hw _) _⟩ (fun hHeld => ?_)
    clear hK9 K9
    (try simp only [Act.put, List.setIfInBounds_toArray, List.set_cons_zero, List.set_cons_succ])
    refine wpAnyH_name hHeld (fun wyx6 hHa hwz => ?_)
    replace t0 : wyx6.cell? ⟨gT, 0, none⟩ = some (.slice A X.length c) := by rw [hwz]; exact cell_far (g := w.heap.size) (cell_far (g := w.heap.size) t0 (by simp; omega) 0) (by simp; omega) 1
    replace t1 : wyx6.cell? ⟨gT, 1, none⟩ = some (.slice B Y.length d) := by rw [hwz]; exact cell_far (g := w.heap.size) (cell_far (g := w.heap.size) t1 (by simp; omega) 0) (by simp; omega) 1
    replace hw : Below w.heap.size w wyx6 := by rw [hwz]; exact Below.setCell' (p := ⟨w.heap.size, 1, none⟩) (by simp) (Below.setCell' (p := ⟨w.heap.size, 0, none⟩) (by simp) hw _) _
    have hkb := (((KeptBut.refl2 wdx5 w.heap.size).setg 0 (.slice A X.length c)).setg 1 (.slice B Y.length d))
    rw [← hwz] at hkb
    replace hA := hkb.own hA (by omega) (by omega)
    replace hY := hkb.own hY (by omega) (by omega)
    replace hoQ := hkb.own hoQ (by omega) (by omega)
    have hres : BlkT wyx6 w.heap.size (.slice A X.length c) (.slice B Y.length d) := by rw [hwz]; exact (hdr.res.set0 _).set1 _
    clear hdr r0 r1 rf0 rf1 hkb
    clear hHeld hwz
    have hHeld := hHa
    clear hHa
    refine wpAnyH_take (i := 6) (oi := ?oox7) (v := ?vvx7) ?hix7 (by kernel_rfl) (by kernel_rfl) (by kernel_rfl) ?hqx7 (Or.inl ⟨?hgx7, ?hyx7⟩) (by assumption) ?restx7
    case hix7 => simp only [List.getElem?_toArray, List.getElem?_cons_zero, List.getElem?_cons_succ]; rfl
    case hqx7 => exact fun _ _ _ h => h
    case hgx7 => rfl
    case hyx7 =>
      intro wq hSw
      obtain ⟨t0, t1, hw⟩ := hSw
      go_simp
      (try with_reducible rfl)
    (try simp only [Act.put, List.setIfInBounds_toArray, List.set_cons_zero, List.set_cons_succ])
    refine wpAnyH_take (i := 7) (oi := ?oox8) (v := ?vvx8) ?hix8 (by kernel_rfl) (by kernel_rfl) (by kernel_rfl) ?hqx8 (Or.inl ⟨?hgx8, ?hyx8⟩) (by assumption) ?restx8
    case hix8 => simp only [List.getElem?_toArray, List.getElem?_cons_zero, List.getElem?_cons_succ]; rfl
    case hqx8 => exact fun _ _ _ h => h
    case hgx8 => rfl
    case hyx8 =>
      intro wq hSw
      obtain ⟨t0, t1, hw⟩ := hSw
      go_simp
      (try with_reducible rfl)
    (try simp only [Act.put, List.setIfInBounds_toArray, List.set_cons_zero, List.set_cons_succ])
    clear hHeld
    refine wpAnyH_done (by kernel_rfl) ?_ _
    have r0 := hres.c0
    have r1 := hres.c1
    have hw9 := Lib.hid hw
    clear hres hw t0 t1
    go_wp2
    refine bodyPost_ret (v := .tuple #[.agg #[.slice A X.length c, .slice B Y.length d], .int .i64 z, .slice Q M.length q9]) (by simp (maxDischargeDepth := 9) [results, Try.results70, go_sem, *]) rfl ⟨X, Y, M, z, A, B, Q, c, d, q9, rfl, hA.ints, hY.ints, hoQ.ints, hX, hYl, hlQ, bX, bY, hz, hbQ, hw9.out⟩
  | true =>
    by_cases hz0 : 0 ≤ z
    case neg =>
      have i0 : ¬ (0 ≤ z) := hz0
      have i1 : decide (0 ≤ z) = false := decide_eq_false hz0
      have i2 : z < 0 := by omega
      go_upto_region 6 with (fail)
      have t0 := hbx.c0
      have t1 := hbx.c1
      have hw := hdr.bel
      clear hbx
      refine wp_region_held_drew (S := fun w' => w'.cell? ⟨gT, 0, none⟩ = some (.slice A X.length c) ∧ w'.cell? ⟨gT, 1, none⟩ = some (.slice B Y.length d) ∧ Below w.heap.size w w') (by kernel_rfl) ⟨t0, t1, hw.drew⟩ (fun hHeld => ?_)
      refine wpAnyH_take (i := 0) (oi := ?ooy1) (v := ?vvy1) ?hiy1 (by kernel_rfl) (by kernel_rfl) (by kernel_rfl) ?hqy1 (Or.inl ⟨?hgy1, ?hyy1⟩) (by assumption) ?resty1
      case hiy1 => simp only [List.getElem?_toArray, List.getElem?_cons_zero]; rfl
      case hqy1 => exact fun _ _ _ h => h
      case hgy1 => rfl
      case hyy1 =>
        intro wq hSw
        obtain ⟨t0, t1, hw⟩ := hSw
        go_simp
        (try with_reducible rfl)
      (try simp only [Act.put, List.setIfInBounds_toArray, List.set_cons_zero, List.set_cons_succ])
      refine wpAnyH_take (i := 1) (oi := ?ooy2) (v := ?vvy2) ?hiy2 (by kernel_rfl) (by kernel_rfl) (by kernel_rfl) ?hqy2 (Or.inl ⟨?hgy2, ?hyy2⟩) (by assumption) ?resty2
      case hiy2 => simp only [List.getElem?_toArray, List.getElem?_cons_zero, List.getElem?_cons_succ]; rfl
      case hqy2 => exact fun _ _ _ h => h
      case hgy2 => rfl
      case hyy2 =>
        intro wq hSw
        obtain ⟨t0, t1, hw⟩ := hSw
        go_simp
        (try with_reducible rfl)
      (try simp only [Act.put, List.setIfInBounds_toArray, List.set_cons_zero, List.set_cons_succ])
      refine wpAnyH_take (i := 2) (oi := ?ooy3) (v := ?vvy3) ?hiy3 (by kernel_rfl) (by kernel_rfl) (by kernel_rfl) ?hqy3 (Or.inl ⟨?hgy3, ?hyy3⟩) (by assumption) ?resty3
      case hiy3 => simp only [List.getElem?_toArray, List.getElem?_cons_zero, List.getElem?_cons_succ]; rfl
      case hqy3 => exact fun _ _ _ h => h
      case hgy3 => rfl
      case hyy3 =>
        intro wq hSw
        obtain ⟨t0, t1, hw⟩ := hSw
        go_simp
        (try with_reducible rfl)
      (try simp only [Act.put, List.setIfInBounds_toArray, List.set_cons_zero, List.set_cons_succ])
      refine wpAnyH_take (i := 3) (oi := ?ooy4) (v := ?vvy4) ?hiy4 (by kernel_rfl) (by kernel_rfl) (by kernel_rfl) ?hqy4 (Or.inl ⟨?hgy4, ?hyy4⟩) (by assumption) ?resty4
      case hiy4 => simp only [List.getElem?_toArray, List.getElem?_cons_zero, List.getElem?_cons_succ]; rfl
      case hqy4 => exact fun _ _ _ h => h
      case hgy4 => rfl
      case hyy4 =>
        intro wq hSw
        obtain ⟨t0, t1, hw⟩ := hSw
        go_simp
        (try with_reducible rfl)
      (try simp only [Act.put, List.setIfInBounds_toArray, List.set_cons_zero, List.set_cons_succ])
      refine wpAnyH_ready (rs := [4]) (by kernel_rfl) (by simp) ?_
      refine AllReadyH.cons (i := 4) (o := ?ooy5) ?hoy5 (fun K9 hK9 => ?hstepy5) AllReadyH.nil
      case hoy5 => simp only [List.getElem?_toArray, List.getElem?_cons_zero, List.getElem?_cons_succ]; rfl
      go_simp
      replace hdr := hdr.below (Below.drew (Below.refl _ _))
      replace hA := hA.below (Below.drew (Below.refl _ _))
      replace hY := hY.below (Below.drew (Below.refl _ _))
      replace t0 : w4.drew.cell? ⟨gT, 0, none⟩ = some (.slice A X.length c) := t0
      replace t1 : w4.drew.cell? ⟨gT, 1, none⟩ = some (.slice B Y.length d) := t1
      replace hw := hw.drew
      clear hHeld
      refine (HY.out _ 2 _ hdr (by omega) (by omega)).mono ?_
      rintro e1 wdy5 ⟨M, Q, q9, rfl, hoQ, hlQ, hbQ, hd⟩
      replace hoQ := hoQ.mono (B' := w.heap.size + 2) hdr.siz
      replace hdr := HD.out _ _ _ _ hdr hd
      replace hA := hd.2.own hA (by omega) (by omega)
      replace hY := hd.2.own hY (by omega) (by omega)
      replace t0 := hd.2.cell t0 (by simp; omega) (by simp; omega)
      replace t1 := hd.2.cell t1 (by simp; omega) (by simp; omega)
      replace hw := hd.2.below hw (by omega) (by omega)
      clear hd
      go_wp2_with fail
      refine hK9.out _ _ ⟨t0, t1, hw⟩ (fun hHeld => ?_)
      clear hK9 K9
      (try simp only [Act.put, List.setIfInBounds_toArray, List.set_cons_zero, List.set_cons_succ])
      refine wpAnyH_ready (rs := [5]) (by kernel_rfl) (by simp) ?_
      refine AllReadyH.cons (i := 5) (o := ?ooy6) ?hoy6 (fun K9 hK9 => ?hstepy6) AllReadyH.nil
      case hoy6 => simp only [List.getElem?_toArray, List.getElem?_cons_zero, List.getElem?_cons_succ]; rfl
      have r0 := hdr.res.c0
      have r1 := hdr.res.c1
      have rf0 := hdr.res.free 0
      have rf1 := hdr.res.free 1
      go_simp
      clear hHeld
      refine hK9.out _ _ ⟨cell_far (g := w.heap.size) (cell_far (g := w.heap.size) t0 (by simp; omega) 0) (by simp; omega) 1, cell_far (g := w.heap.size) (cell_far (g := w.heap.size) t1 (by simp; omega) 0) (by simp; omega) 1, Below.setCell' (p := ⟨w.heap.size, 1, none⟩) (by simp) (Below.setCell' (p := ⟨w.heap.size, 0, none⟩) (by simp) hw _) _⟩ (fun hHeld => ?_)
      clear hK9 K9
      (try simp only [Act.put, List.setIfInBounds_toArray, List.set_cons_zero, List.set_cons_succ])
      refine wpAnyH_name hHeld (fun wyy6 hHa hwz => ?_)
      replace t0 : wyy6.cell? ⟨gT, 0, none⟩ = some (.slice A X.length c) := by rw [hwz]; exact cell_far (g := w.heap.size) (cell_far (g := w.heap.size) t0 (by simp; omega) 0) (by simp; omega) 1
      replace t1 : wyy6.cell? ⟨gT, 1, none⟩ = some (.slice B Y.length d) := by rw [hwz]; exact cell_far (g := w.heap.size) (cell_far (g := w.heap.size) t1 (by simp; omega) 0) (by simp; omega) 1
      replace hw : Below w.heap.size w wyy6 := by rw [hwz]; exact Below.setCell' (p := ⟨w.heap.size, 1, none⟩) (by simp) (Below.setCell' (p := ⟨w.heap.size, 0, none⟩) (by simp) hw _) _
      have hkb := (((KeptBut.refl2 wdy5 w.heap.size).setg 0 (.slice A X.length c)).setg 1 (.slice B Y.length d))
      rw [← hwz] at hkb
      replace hA := hkb.own hA (by omega) (by omega)
      replace hY := hkb.own hY (by omega) (by omega)
      replace hoQ := hkb.own hoQ (by omega) (by omega)
      have hres : BlkT wyy6 w.heap.size (.slice A X.length c) (.slice B Y.length d) := by rw [hwz]; exact (hdr.res.set0 _).set1 _
      clear hdr r0 r1 rf0 rf1 hkb
      clear hHeld hwz
      have hHeld := hHa
      clear hHa
      refine wpAnyH_take (i := 6) (oi := ?ooy7) (v := ?vvy7) ?hiy7 (by kernel_rfl) (by kernel_rfl) (by kernel_rfl) ?hqy7 (Or.inl ⟨?hgy7, ?hyy7⟩) (by assumption) ?resty7
      case hiy7 => simp only [List.getElem?_toArray, List.getElem?_cons_zero, List.getElem?_cons_succ]; rfl
      case hqy7 => exact fun _ _ _ h => h
      case hgy7 => rfl
      case hyy7 =>
        intro wq hSw
        obtain ⟨t0, t1, hw⟩ := hSw
        go_simp
        (try with_reducible rfl)
      (try simp only [Act.put, List.setIfInBounds_toArray, List.set_cons_zero, List.set_cons_succ])
      refine wpAnyH_take (i := 7) (oi := ?ooy8) (v := ?vvy8) ?hiy8 (by kernel_rfl) (by kernel_rfl) (by kernel_rfl) ?hqy8 (Or.inl ⟨?hgy8, ?hyy8⟩) (by assumption) ?resty8
      case hiy8 => simp only [List.getElem?_toArray, List.getElem?_cons_zero, List.getElem?_cons_succ]; rfl
      case hqy8 => exact fun _ _ _ h => h
      case hgy8 => rfl
      case hyy8 =>
        intro wq hSw
        obtain ⟨t0, t1, hw⟩ := hSw
        go_simp
        (try with_reducible rfl)
      (try simp only [Act.put, List.setIfInBounds_toArray, List.set_cons_zero, List.set_cons_succ])
      clear hHeld
      refine wpAnyH_done (by kernel_rfl) ?_ _
      have r0 := hres.c0
      have r1 := hres.c1
      have hw9 := Lib.hid hw
      clear hres hw t0 t1
      go_wp2
      refine bodyPost_ret (v := .tuple #[.agg #[.slice A X.length c, .slice B Y.length d], .int .i64 z, .slice Q M.length q9]) (by simp (maxDischargeDepth := 9) [results, Try.results70, go_sem, *]) rfl ⟨X, Y, M, z, A, B, Q, c, d, q9, rfl, hA.ints, hY.ints, hoQ.ints, hX, hYl, hlQ, bX, bY, hz, hbQ, hw9.out⟩
    have i1 : decide (0 ≤ z) = true := decide_eq_true hz0
    have hq : (cutL X Y z).length ≤ 24 := Nat.le_trans (cut_len X Y z) (good_len Hr.out).2.1
    have HCt := Lib.hid (fun W (h : OwnS W (w.heap.size + 2) A X) (k : OwnS W (w.heap.size + 2) B Y) => l2CutAt_any Hr.out A B c d z W h.ints k.ints)
    have t0 := hbx.c0
    have t1 := hbx.c1
    go_wp2_with fail
    refine (HCt.out _ hA hY).mono ?_
    rintro e1 w5 ⟨A5, c5, rfl, _, hb⟩
    replace hdr := hdr.below hb
    replace hA := hA.below hb
    replace hY := hY.below hb
    replace hbx := hbx.below hb
    clear hb t0 t1 HCt
    generalize (cutL X Y z).length = q at *
    go_upto_region 6 with (fail)
    have t0 := hbx.c0
    have t1 := hbx.c1
    have hw := hdr.bel
    clear hbx
    refine wp_region_held_drew (S := fun w' => w'.cell? ⟨gT, 0, none⟩ = some (.slice A X.length c) ∧ w'.cell? ⟨gT, 1, none⟩ = some (.slice B Y.length d) ∧ Below w.heap.size w w') (by kernel_rfl) ⟨t0, t1, hw.drew⟩ (fun hHeld => ?_)
    refine wpAnyH_take (i := 0) (oi := ?ooz1) (v := ?vvz1) ?hiz1 (by kernel_rfl) (by kernel_rfl) (by kernel_rfl) ?hqz1 (Or.inl ⟨?hgz1, ?hyz1⟩) (by assumption) ?restz1
    case hiz1 => simp only [List.getElem?_toArray, List.getElem?_cons_zero]; rfl
    case hqz1 => exact fun _ _ _ h => h
    case hgz1 => rfl
    case hyz1 =>
      intro wq hSw
      obtain ⟨t0, t1, hw⟩ := hSw
      go_simp
      (try with_reducible rfl)
    (try simp only [Act.put, List.setIfInBounds_toArray, List.set_cons_zero, List.set_cons_succ])
    refine wpAnyH_take (i := 1) (oi := ?ooz2) (v := ?vvz2) ?hiz2 (by kernel_rfl) (by kernel_rfl) (by kernel_rfl) ?hqz2 (Or.inl ⟨?hgz2, ?hyz2⟩) (by assumption) ?restz2
    case hiz2 => simp only [List.getElem?_toArray, List.getElem?_cons_zero, List.getElem?_cons_succ]; rfl
    case hqz2 => exact fun _ _ _ h => h
    case hgz2 => rfl
    case hyz2 =>
      intro wq hSw
      obtain ⟨t0, t1, hw⟩ := hSw
      go_simp
      (try with_reducible rfl)
    (try simp only [Act.put, List.setIfInBounds_toArray, List.set_cons_zero, List.set_cons_succ])
    refine wpAnyH_take (i := 2) (oi := ?ooz3) (v := ?vvz3) ?hiz3 (by kernel_rfl) (by kernel_rfl) (by kernel_rfl) ?hqz3 (Or.inl ⟨?hgz3, ?hyz3⟩) (by assumption) ?restz3
    case hiz3 => simp only [List.getElem?_toArray, List.getElem?_cons_zero, List.getElem?_cons_succ]; rfl
    case hqz3 => exact fun _ _ _ h => h
    case hgz3 => rfl
    case hyz3 =>
      intro wq hSw
      obtain ⟨t0, t1, hw⟩ := hSw
      go_simp
      (try with_reducible rfl)
    (try simp only [Act.put, List.setIfInBounds_toArray, List.set_cons_zero, List.set_cons_succ])
    refine wpAnyH_take (i := 3) (oi := ?ooz4) (v := ?vvz4) ?hiz4 (by kernel_rfl) (by kernel_rfl) (by kernel_rfl) ?hqz4 (Or.inl ⟨?hgz4, ?hyz4⟩) (by assumption) ?restz4
    case hiz4 => simp only [List.getElem?_toArray, List.getElem?_cons_zero, List.getElem?_cons_succ]; rfl
    case hqz4 => exact fun _ _ _ h => h
    case hgz4 => rfl
    case hyz4 =>
      intro wq hSw
      obtain ⟨t0, t1, hw⟩ := hSw
      go_simp
      (try with_reducible rfl)
    (try simp only [Act.put, List.setIfInBounds_toArray, List.set_cons_zero, List.set_cons_succ])
    refine wpAnyH_ready (rs := [4]) (by kernel_rfl) (by simp) ?_
    refine AllReadyH.cons (i := 4) (o := ?ooz5) ?hoz5 (fun K9 hK9 => ?hstepz5) AllReadyH.nil
    case hoz5 => simp only [List.getElem?_toArray, List.getElem?_cons_zero, List.getElem?_cons_succ]; rfl
    go_simp
    replace hdr := hdr.below (Below.drew (Below.refl _ _))
    replace hA := hA.below (Below.drew (Below.refl _ _))
    replace hY := hY.below (Below.drew (Below.refl _ _))
    replace t0 : w5.drew.cell? ⟨gT, 0, none⟩ = some (.slice A X.length c) := t0
    replace t1 : w5.drew.cell? ⟨gT, 1, none⟩ = some (.slice B Y.length d) := t1
    replace hw := hw.drew
    clear hHeld
    refine (HY.out _ q _ hdr (by omega) (by omega)).mono ?_
    rintro e1 wdz5 ⟨M, Q, q9, rfl, hoQ, hlQ, hbQ, hd⟩
    replace hoQ := hoQ.mono (B' := w.heap.size + 2) hdr.siz
    replace hdr := HD.out _ _ _ _ hdr hd
    replace hA := hd.2.own hA (by omega) (by omega)
    replace hY := hd.2.own hY (by omega) (by omega)
    replace t0 := hd.2.cell t0 (by simp; omega) (by simp; omega)
    replace t1 := hd.2.cell t1 (by simp; omega) (by simp; omega)
    replace hw := hd.2.below hw (by omega) (by omega)
    clear hd
    go_wp2_with fail
    refine hK9.out _ _ ⟨t0, t1, hw⟩ (fun hHeld => ?_)
    clear hK9 K9
    (try simp only [Act.put, List.setIfInBounds_toArray, List.set_cons_zero, List.set_cons_succ])
    refine wpAnyH_ready (rs := [5]) (by kernel_rfl) (by simp) ?_
    refine AllReadyH.cons (i := 5) (o := ?ooz6) ?hoz6 (fun K9 hK9 => ?hstepz6) AllReadyH.nil
    case hoz6 => simp only [List.getElem?_toArray, List.getElem?_cons_zero, List.getElem?_cons_succ]; rfl
    have r0 := hdr.res.c0
    have r1 := hdr.res.c1
    have rf0 := hdr.res.free 0
    have rf1 := hdr.res.free 1
    go_simp
    clear hHeld
    refine hK9.out _ _ ⟨cell_far (g := w.heap.size) (cell_far (g := w.heap.size) t0 (by simp; omega) 0) (by simp; omega) 1, cell_far (g := w.heap.size) (cell_far (g := w.heap.size) t1 (by simp; omega) 0) (by simp; omega) 1, Below.setCell' (p := ⟨w.heap.size, 1, none⟩) (by simp) (Below.setCell' (p := ⟨w.heap.size, 0, none⟩) (by simp) hw _) _⟩ (fun hHeld => ?_)
    clear hK9 K9
    (try simp only [Act.put, List.setIfInBounds_toArray, List.set_cons_zero, List.set_cons_succ])
    refine wpAnyH_name hHeld (fun wyz6 hHa hwz => ?_)
    replace t0 : wyz6.cell? ⟨gT, 0, none⟩ = some (.slice A X.length c) := by rw [hwz]; exact cell_far (g := w.heap.size) (cell_far (g := w.heap.size) t0 (by simp; omega) 0) (by simp; omega) 1
    replace t1 : wyz6.cell? ⟨gT, 1, none⟩ = some (.slice B Y.length d) := by rw [hwz]; exact cell_far (g := w.heap.size) (cell_far (g := w.heap.size) t1 (by simp; omega) 0) (by simp; omega) 1
    replace hw : Below w.heap.size w wyz6 := by rw [hwz]; exact Below.setCell' (p := ⟨w.heap.size, 1, none⟩) (by simp) (Below.setCell' (p := ⟨w.heap.size, 0, none⟩) (by simp) hw _) _
    have hkb := (((KeptBut.refl2 wdz5 w.heap.size).setg 0 (.slice A X.length c)).setg 1 (.slice B Y.length d))
    rw [← hwz] at hkb
    replace hA := hkb.own hA (by omega) (by omega)
    replace hY := hkb.own hY (by omega) (by omega)
    replace hoQ := hkb.own hoQ (by omega) (by omega)
    have hres : BlkT wyz6 w.heap.size (.slice A X.length c) (.slice B Y.length d) := by rw [hwz]; exact (hdr.res.set0 _).set1 _
    clear hdr r0 r1 rf0 rf1 hkb
    clear hHeld hwz
    have hHeld := hHa
    clear hHa
    refine wpAnyH_take (i := 6) (oi := ?ooz7) (v := ?vvz7) ?hiz7 (by kernel_rfl) (by kernel_rfl) (by kernel_rfl) ?hqz7 (Or.inl ⟨?hgz7, ?hyz7⟩) (by assumption) ?restz7
    case hiz7 => simp only [List.getElem?_toArray, List.getElem?_cons_zero, List.getElem?_cons_succ]; rfl
    case hqz7 => exact fun _ _ _ h => h
    case hgz7 => rfl
    case hyz7 =>
      intro wq hSw
      obtain ⟨t0, t1, hw⟩ := hSw
      go_simp
      (try with_reducible rfl)
    (try simp only [Act.put, List.setIfInBounds_toArray, List.set_cons_zero, List.set_cons_succ])
    refine wpAnyH_take (i := 7) (oi := ?ooz8) (v := ?vvz8) ?hiz8 (by kernel_rfl) (by kernel_rfl) (by kernel_rfl) ?hqz8 (Or.inl ⟨?hgz8, ?hyz8⟩) (by assumption) ?restz8
    case hiz8 => simp only [List.getElem?_toArray, List.getElem?_cons_zero, List.getElem?_cons_succ]; rfl
    case hqz8 => exact fun _ _ _ h => h
    case hgz8 => rfl
    case hyz8 =>
      intro wq hSw
      obtain ⟨t0, t1, hw⟩ := hSw
      go_simp
      (try with_reducible rfl)
    (try simp only [Act.put, List.setIfInBounds_toArray, List.set_cons_zero, List.set_cons_succ])
    clear hHeld
    refine wpAnyH_done (by kernel_rfl) ?_ _
    have r0 := hres.c0
    have r1 := hres.c1
    have hw9 := Lib.hid hw
    clear hres hw t0 t1
    go_wp2
    refine bodyPost_ret (v := .tuple #[.agg #[.slice A X.length c, .slice B Y.length d], .int .i64 z, .slice Q M.length q9]) (by simp (maxDischargeDepth := 9) [results, Try.results70, go_sem, *]) rfl ⟨X, Y, M, z, A, B, Q, c, d, q9, rfl, hA.ints, hY.ints, hoQ.ints, hX, hYl, hlQ, bX, bY, hz, hbQ, hw9.out⟩
end Go.Proofs.Ytombfbmcplefgaa
/- Contracts: the reference's draw for KnownAt. -/
namespace Go.Proofs.Ytombfbmcplefgaa
open Go.ChangeShapes Go.WideShapes Go.ChangeAt Go.RowKit

theorem pcR_len24 (X Y vs : List Int) (d : Int) : (pcR X Y d vs).length ≤ 24 := by
  unfold pcR; split
  · rename_i h
    rw [mapI_len _ _ (Nat.le_refl _)]
    unfold pcOk at h
    simp only [Bool.and_eq_true] at h
    have := ends_len X
    have := (good_len h.1.1.1).2.1
    omega
  · simp
theorem pcR_bd (X Y vs : List Int) (d : Int) (h : Bd vs) : Bd (pcR X Y d vs) := by
  unfold pcR; split
  · intro j
    by_cases hj : j < (endsL X).length
    · rw [mapI_nth _ _ hj]; exact h _
    · rw [show nth (mapI (pcF X Y d vs) (endsL X) (endsL X).length) j = 0 from by unfold nth; rw [List.getD_eq_getElem?_getD, List.getElem?_eq_none (by rw [mapI_len _ _ (Nat.le_refl _)]; omega)]; rfl]
      exact ⟨by decide, by decide⟩
  · exact Bd.nil
set_option maxHeartbeats 8000000 in
set_option maxRecDepth 100000 in
theorem drawKnown_any (C : Option Addr) (n cc : Nat) (w : World) (hB : Byt w C n) (hn : n ≤ 1000000) : Calls Try.prog 73 #[.slice C n cc] w (RetD2 w) := by
  have hne : ∀ b o, 0 < n → C = some ⟨b, o, none⟩ → b ≠ w.heap.size + 1 := fun b o h0 e => by have := byt_lt hB h0 e; omega
  have hC : ∀ W : World, w.heap.size ≤ W.heap.size → ∀ b o, 0 < n → C = some ⟨b, o, none⟩ → b < W.heap.size := fun W hW b o h0 e => by have := byt_lt hB h0 e; omega
  have HT := Lib.hid (fun W m (hs : Dr w W C n cc m) (hm : m + 200 ≤ 1000000) => tree_draw W hs.cur hs.byt hne (hC W hs.bel.size) hn hm)
  have HS := Lib.hid (fun W q m (hs : Dr w W C n cc m) (hq : 1 ≤ q ∧ q ≤ 24) (hm : m + 200 ≤ 1000000) => someTree_draw q W hs.cur hs.byt hne (hC W hs.bel.size) hm hn hq)
  have HD := Lib.hid (fun W W' m m' (hs : Dr w W C n cc m) (hd : Drew W (w.heap.size + 1) C n cc m' W') => hs.draw hne hd)
  have HP := Lib.hid (fun W (p : Int) m (hs : Dr w W C n cc m) (hm : m + 1 ≤ 1000000) (hp : 1 ≤ p ∧ p ≤ 1000000000) => pick_draw p W hs.cur hs.byt hne hm hn hp)
  have HO := Lib.hid (fun W (p : Int) m (hs : Dr w W C n cc m) (hm : m + 1 ≤ 1000000) (hp : 1 ≤ p ∧ p ≤ 1000000000) => one_draw p W hs.cur hs.byt hne hm hn hp)
  have HA := Lib.hid (fun W (A : Option Addr) (c : Nat) (xs : List Int) m (hs : Dr w W C n cc m) (hm : m + 1 ≤ 1000000) (b : IntS W A xs) (d : ∀ b o, A = some ⟨b, o, none⟩ → b ≠ w.heap.size + 1) (e : 1 ≤ xs.length ∧ xs.length ≤ 1000) => among_draw A c xs W hs.cur hs.byt hne hm hn b d e)
  have HY := Lib.hid (fun W (q : Nat) m (hs : Dr w W C n cc m) (hm : m + 100 ≤ 1000000) (hq : q ≤ 24) => somePays_draw q W hs.cur hs.byt hne (hC W hs.bel.size) hm hn hq)
  have HL := Lib.hid (fun W m A B c d X Y (hs : Dr w W C n cc m) (hA : OwnS W (w.heap.size + 2) A X) (hY : OwnS W (w.heap.size + 2) B Y) (hm : m + 200 ≤ 1000000) bX bY hX hYl => endPays_draw W hs.cur hs.byt hne (hC W hs.bel.size) hn hm (w.heap.size + 2) A B c d X Y (by omega) hA hY bX bY hX hYl)
  have hdr := Dr.start w C n cc hB
  obtain ⟨w0, hw0⟩ : ∃ W, W = (w.alloc (.cells #[.slice none 0 0, .slice none 0 0] 28)).alloc (.cells #[.slice C n cc, .int .i64 0, .int .u64 0] 98) := ⟨_, rfl⟩
  rw [← hw0] at hdr
  have hs0 : w0.heap.size = w.heap.size + 2 := by rw [hw0]; simp
  clear hne hC hB HA
  go_enter Try.func73, Try.ntmps73
  go_wp2_with fail
  rw [← hw0]
  refine (HT.out _ _ hdr (by omega)).mono ?_
  rintro e1 w1 ⟨X, Y, A, B, c, d, rfl, hA, hY, hap, hX, hYl, bX, bY, hd⟩
  rw [hs0] at hA hY
  replace hdr := HD.out _ _ _ _ hdr hd
  clear hd hw0 hs0 HT HS
  go_upto_region 3 with (fail)
  obtain ⟨w2, hw2⟩ : ∃ W, W = w1.alloc (.cells #[.slice A X.length c, .slice B Y.length d] 28) := ⟨_, rfl⟩
  rw [← hw2]
  have hbA : Below w1.heap.size w1 w2 := by rw [hw2]; exact (Below.refl _ _).alloc (Nat.le_refl _) _
  have hbx : BlkT w2 w1.heap.size (.slice A X.length c) (.slice B Y.length d) := by rw [hw2]; exact BlkT.new w1 _ _ rfl
  have hgT := hdr.siz
  replace hdr := hdr.below hbA
  replace hA := hA.below hbA
  replace hY := hY.below hbA
  clear hw2 hbA
  generalize w1.heap.size = gT at *
  have HGd := Lib.hid (fun W (h : OwnS W (w.heap.size + 2) A X) (k : OwnS W (w.heap.size + 2) B Y) => l2Good_any A B c d X Y W h.ints k.ints bX bY (by omega) (by omega))
  obtain ⟨r, hr⟩ : ∃ r, good X Y = r := ⟨_, rfl⟩
  rw [hr] at HGd
  have Hr := Lib.hid hr
  clear hr
  have t0 := hbx.c0
  have t1 := hbx.c1
  go_wp2_with fail
  refine (HGd.out _ hA hY).mono ?_
  rintro e1 w4 ⟨rfl, hb⟩
  replace hdr := hdr.below hb
  replace hA := hA.below hb
  replace hY := hY.below hb
  replace hbx := hbx.below hb
  clear hb t0 t1 HGd
  cases r with
  | false =>
    go_upto_region 8 with (fail)
    have t0 := hbx.c0
    have t1 := hbx.c1
    have hw := hdr.bel
    clear hbx
    refine wp_region_held_drew (S := fun w' => w'.cell? ⟨gT, 0, none⟩ = some (.slice A X.length c) ∧ w'.cell? ⟨gT, 1, none⟩ = some (.slice B Y.length d) ∧ Below w.heap.size w w') (by kernel_rfl) ⟨t0, t1, hw.drew⟩ (fun hHeld => ?_)
    refine wpAnyH_take (i := 0) (oi := ?ooe1) (v := ?vve1) ?hie1 (by kernel_rfl) (by kernel_rfl) (by kernel_rfl) ?hqe1 (Or.inl ⟨?hge1, ?hye1⟩) (by assumption) ?reste1
    case hie1 => simp only [List.getElem?_toArray, List.getElem?_cons_zero]; rfl
    case hqe1 => exact fun _ _ _ h => h
    case hge1 => rfl
    case hye1 =>
      intro wq hSw
      obtain ⟨t0, t1, hw⟩ := hSw
      go_simp
      (try with_reducible rfl)
    (try simp only [Act.put, List.setIfInBounds_toArray, List.set_cons_zero, List.set_cons_succ])
    refine wpAnyH_take (i := 1) (oi := ?ooe2) (v := ?vve2) ?hie2 (by kernel_rfl) (by kernel_rfl) (by kernel_rfl) ?hqe2 (Or.inl ⟨?hge2, ?hye2⟩) (by assumption) ?reste2
    case hie2 => simp only [List.getElem?_toArray, List.getElem?_cons_zero, List.getElem?_cons_succ]; rfl
    case hqe2 => exact fun _ _ _ h => h
    case hge2 => rfl
    case hye2 =>
      intro wq hSw
      obtain ⟨t0, t1, hw⟩ := hSw
      go_simp
      (try with_reducible rfl)
    (try simp only [Act.put, List.setIfInBounds_toArray, List.set_cons_zero, List.set_cons_succ])
    refine wpAnyH_take (i := 2) (oi := ?ooe3) (v := ?vve3) ?hie3 (by kernel_rfl) (by kernel_rfl) (by kernel_rfl) ?hqe3 (Or.inl ⟨?hge3, ?hye3⟩) (by assumption) ?reste3
    case hie3 => simp only [List.getElem?_toArray, List.getElem?_cons_zero, List.getElem?_cons_succ]; rfl
    case hqe3 => exact fun _ _ _ h => h
    case hge3 => rfl
    case hye3 =>
      intro wq hSw
      obtain ⟨t0, t1, hw⟩ := hSw
      go_simp
      (try with_reducible rfl)
    (try simp only [Act.put, List.setIfInBounds_toArray, List.set_cons_zero, List.set_cons_succ])
    refine wpAnyH_ready (rs := [3]) (by kernel_rfl) (by simp) ?_
    refine AllReadyH.cons (i := 3) (o := ?ooe4) ?hoe4 (fun K9 hK9 => ?hstepe4) AllReadyH.nil
    case hoe4 => simp only [List.getElem?_toArray, List.getElem?_cons_zero, List.getElem?_cons_succ]; rfl
    go_simp
    replace hdr := hdr.below (Below.drew (Below.refl _ _))
    replace hA := hA.below (Below.drew (Below.refl _ _))
    replace hY := hY.below (Below.drew (Below.refl _ _))
    replace t0 : w4.drew.cell? ⟨gT, 0, none⟩ = some (.slice A X.length c) := t0
    replace t1 : w4.drew.cell? ⟨gT, 1, none⟩ = some (.slice B Y.length d) := t1
    replace hw := hw.drew
    clear hHeld
    refine (HL.out _ _ _ _ _ _ _ _ hdr hA hY (by omega) bX bY hX hYl).mono ?_
    rintro e1 wde4 ⟨L, P, p, rfl, hoP, hlP, hbP, hd⟩
    replace hoP := hoP.mono (B' := w.heap.size + 2) hdr.siz
    replace hdr := HD.out _ _ _ _ hdr hd
    replace hA := hd.2.own hA (by omega) (by omega)
    replace hY := hd.2.own hY (by omega) (by omega)
    replace t0 := hd.2.cell t0 (by simp; omega) (by simp; omega)
    replace t1 := hd.2.cell t1 (by simp; omega) (by simp; omega)
    replace hw := hd.2.below hw (by omega) (by omega)
    clear hd
    go_wp2_with fail
    refine hK9.out _ _ ⟨t0, t1, hw⟩ (fun hHeld => ?_)
    clear hK9 K9
    (try simp only [Act.put, List.setIfInBounds_toArray, List.set_cons_zero, List.set_cons_succ])
    refine wpAnyH_ready (rs := [4]) (by kernel_rfl) (by simp) ?_
    refine AllReadyH.cons (i := 4) (o := ?ooe5) ?hoe5 (fun K9 hK9 => ?hstepe5) AllReadyH.nil
    case hoe5 => simp only [List.getElem?_toArray, List.getElem?_cons_zero, List.getElem?_cons_succ]; rfl
    have r0 := hdr.res.c0
    have r1 := hdr.res.c1
    have rf0 := hdr.res.free 0
    have rf1 := hdr.res.free 1
    go_simp
    clear hHeld
    refine hK9.out _ _ ⟨cell_far (g := w.heap.size) (cell_far (g := w.heap.size) t0 (by simp; omega) 0) (by simp; omega) 1, cell_far (g := w.heap.size) (cell_far (g := w.heap.size) t1 (by simp; omega) 0) (by simp; omega) 1, Below.setCell' (p := ⟨w.heap.size, 1, none⟩) (by simp) (Below.setCell' (p := ⟨w.heap.size, 0, none⟩) (by simp) hw _) _⟩ (fun hHeld => ?_)
    clear hK9 K9
    (try simp only [Act.put, List.setIfInBounds_toArray, List.set_cons_zero, List.set_cons_succ])
    refine wpAnyH_name hHeld (fun wye5 hHa hwz => ?_)
    replace t0 : wye5.cell? ⟨gT, 0, none⟩ = some (.slice A X.length c) := by rw [hwz]; exact cell_far (g := w.heap.size) (cell_far (g := w.heap.size) t0 (by simp; omega) 0) (by simp; omega) 1
    replace t1 : wye5.cell? ⟨gT, 1, none⟩ = some (.slice B Y.length d) := by rw [hwz]; exact cell_far (g := w.heap.size) (cell_far (g := w.heap.size) t1 (by simp; omega) 0) (by simp; omega) 1
    replace hw : Below w.heap.size w wye5 := by rw [hwz]; exact Below.setCell' (p := ⟨w.heap.size, 1, none⟩) (by simp) (Below.setCell' (p := ⟨w.heap.size, 0, none⟩) (by simp) hw _) _
    have hkb := (((KeptBut.refl2 wde4 w.heap.size).setg 0 (.slice A X.length c)).setg 1 (.slice B Y.length d))
    rw [← hwz] at hkb
    replace hA := hkb.own hA (by omega) (by omega)
    replace hY := hkb.own hY (by omega) (by omega)
    replace hoP := hkb.own hoP (by omega) (by omega)
    have hres : BlkT wye5 w.heap.size (.slice A X.length c) (.slice B Y.length d) := by rw [hwz]; exact (hdr.res.set0 _).set1 _
    clear hdr r0 r1 rf0 rf1 hkb
    clear hHeld hwz
    have hHeld := hHa
    clear hHa
    refine wpAnyH_take (i := 5) (oi := ?ooe6) (v := ?vve6) ?hie6 (by kernel_rfl) (by kernel_rfl) (by kernel_rfl) ?hqe6 (Or.inl ⟨?hge6, ?hye6⟩) (by assumption) ?reste6
    case hie6 => simp only [List.getElem?_toArray, List.getElem?_cons_zero, List.getElem?_cons_succ]; rfl
    case hqe6 => exact fun _ _ _ h => h
    case hge6 => rfl
    case hye6 =>
      intro wq hSw
      obtain ⟨t0, t1, hw⟩ := hSw
      go_simp
      (try with_reducible rfl)
    (try simp only [Act.put, List.setIfInBounds_toArray, List.set_cons_zero, List.set_cons_succ])
    clear hHeld
    refine wpAnyH_done (by kernel_rfl) ?_ _
    have r0 := hres.c0
    have r1 := hres.c1
    have hw9 := Lib.hid hw
    clear hres hw t0 t1
    go_wp2
    refine bodyPost_ret (v := .tuple #[.agg #[.slice A X.length c, .slice B Y.length d], .slice P L.length p]) (by simp (maxDischargeDepth := 9) [results, Try.results73, go_sem, *]) rfl ⟨X, Y, L, A, B, P, c, d, p, rfl, hA.ints, hY.ints, hoP.ints, hX, hYl, hlP, bX, bY, hbP, hw9.out⟩
  | true =>
    go_wp2_with fail
    refine (HO.out _ 3 _ hdr (by omega) (by omega)).mono ?_
    rintro e1 w5 ⟨b1, rfl, hd⟩
    replace hbx : BlkT _ gT (.slice A X.length c) (.slice B Y.length d) := (hd.2.block gT hbx.lt (by omega) (by omega)).trans hbx
    replace hdr := HD.out _ _ _ _ hdr hd
    replace hA := hd.2.own hA (by omega) (by omega)
    replace hY := hd.2.own hY (by omega) (by omega)
    clear hd
    cases b1 with
    | true =>
      go_upto_region 8 with (fail)
      have t0 := hbx.c0
      have t1 := hbx.c1
      have hw := hdr.bel
      clear hbx
      refine wp_region_held_drew (S := fun w' => w'.cell? ⟨gT, 0, none⟩ = some (.slice A X.length c) ∧ w'.cell? ⟨gT, 1, none⟩ = some (.slice B Y.length d) ∧ Below w.heap.size w w') (by kernel_rfl) ⟨t0, t1, hw.drew⟩ (fun hHeld => ?_)
      refine wpAnyH_take (i := 0) (oi := ?oof1) (v := ?vvf1) ?hif1 (by kernel_rfl) (by kernel_rfl) (by kernel_rfl) ?hqf1 (Or.inl ⟨?hgf1, ?hyf1⟩) (by assumption) ?restf1
      case hif1 => simp only [List.getElem?_toArray, List.getElem?_cons_zero]; rfl
      case hqf1 => exact fun _ _ _ h => h
      case hgf1 => rfl
      case hyf1 =>
        intro wq hSw
        obtain ⟨t0, t1, hw⟩ := hSw
        go_simp
        (try with_reducible rfl)
      (try simp only [Act.put, List.setIfInBounds_toArray, List.set_cons_zero, List.set_cons_succ])
      refine wpAnyH_take (i := 1) (oi := ?oof2) (v := ?vvf2) ?hif2 (by kernel_rfl) (by kernel_rfl) (by kernel_rfl) ?hqf2 (Or.inl ⟨?hgf2, ?hyf2⟩) (by assumption) ?restf2
      case hif2 => simp only [List.getElem?_toArray, List.getElem?_cons_zero, List.getElem?_cons_succ]; rfl
      case hqf2 => exact fun _ _ _ h => h
      case hgf2 => rfl
      case hyf2 =>
        intro wq hSw
        obtain ⟨t0, t1, hw⟩ := hSw
        go_simp
        (try with_reducible rfl)
      (try simp only [Act.put, List.setIfInBounds_toArray, List.set_cons_zero, List.set_cons_succ])
      refine wpAnyH_take (i := 2) (oi := ?oof3) (v := ?vvf3) ?hif3 (by kernel_rfl) (by kernel_rfl) (by kernel_rfl) ?hqf3 (Or.inl ⟨?hgf3, ?hyf3⟩) (by assumption) ?restf3
      case hif3 => simp only [List.getElem?_toArray, List.getElem?_cons_zero, List.getElem?_cons_succ]; rfl
      case hqf3 => exact fun _ _ _ h => h
      case hgf3 => rfl
      case hyf3 =>
        intro wq hSw
        obtain ⟨t0, t1, hw⟩ := hSw
        go_simp
        (try with_reducible rfl)
      (try simp only [Act.put, List.setIfInBounds_toArray, List.set_cons_zero, List.set_cons_succ])
      refine wpAnyH_ready (rs := [3]) (by kernel_rfl) (by simp) ?_
      refine AllReadyH.cons (i := 3) (o := ?oof4) ?hof4 (fun K9 hK9 => ?hstepf4) AllReadyH.nil
      case hof4 => simp only [List.getElem?_toArray, List.getElem?_cons_zero, List.getElem?_cons_succ]; rfl
      go_simp
      replace hdr := hdr.below (Below.drew (Below.refl _ _))
      replace hA := hA.below (Below.drew (Below.refl _ _))
      replace hY := hY.below (Below.drew (Below.refl _ _))
      replace t0 : w5.drew.cell? ⟨gT, 0, none⟩ = some (.slice A X.length c) := t0
      replace t1 : w5.drew.cell? ⟨gT, 1, none⟩ = some (.slice B Y.length d) := t1
      replace hw := hw.drew
      clear hHeld
      refine (HL.out _ _ _ _ _ _ _ _ hdr hA hY (by omega) bX bY hX hYl).mono ?_
      rintro e1 wdf4 ⟨L, P, p, rfl, hoP, hlP, hbP, hd⟩
      replace hoP := hoP.mono (B' := w.heap.size + 2) hdr.siz
      replace hdr := HD.out _ _ _ _ hdr hd
      replace hA := hd.2.own hA (by omega) (by omega)
      replace hY := hd.2.own hY (by omega) (by omega)
      replace t0 := hd.2.cell t0 (by simp; omega) (by simp; omega)
      replace t1 := hd.2.cell t1 (by simp; omega) (by simp; omega)
      replace hw := hd.2.below hw (by omega) (by omega)
      clear hd
      go_wp2_with fail
      refine hK9.out _ _ ⟨t0, t1, hw⟩ (fun hHeld => ?_)
      clear hK9 K9
      (try simp only [Act.put, List.setIfInBounds_toArray, List.set_cons_zero, List.set_cons_succ])
      refine wpAnyH_ready (rs := [4]) (by kernel_rfl) (by simp) ?_
      refine AllReadyH.cons (i := 4) (o := ?oof5) ?hof5 (fun K9 hK9 => ?hstepf5) AllReadyH.nil
      case hof5 => simp only [List.getElem?_toArray, List.getElem?_cons_zero, List.getElem?_cons_succ]; rfl
      have r0 := hdr.res.c0
      have r1 := hdr.res.c1
      have rf0 := hdr.res.free 0
      have rf1 := hdr.res.free 1
      go_simp
      clear hHeld
      refine hK9.out _ _ ⟨cell_far (g := w.heap.size) (cell_far (g := w.heap.size) t0 (by simp; omega) 0) (by simp; omega) 1, cell_far (g := w.heap.size) (cell_far (g := w.heap.size) t1 (by simp; omega) 0) (by simp; omega) 1, Below.setCell' (p := ⟨w.heap.size, 1, none⟩) (by simp) (Below.setCell' (p := ⟨w.heap.size, 0, none⟩) (by simp) hw _) _⟩ (fun hHeld => ?_)
      clear hK9 K9
      (try simp only [Act.put, List.setIfInBounds_toArray, List.set_cons_zero, List.set_cons_succ])
      refine wpAnyH_name hHeld (fun wyf5 hHa hwz => ?_)
      replace t0 : wyf5.cell? ⟨gT, 0, none⟩ = some (.slice A X.length c) := by rw [hwz]; exact cell_far (g := w.heap.size) (cell_far (g := w.heap.size) t0 (by simp; omega) 0) (by simp; omega) 1
      replace t1 : wyf5.cell? ⟨gT, 1, none⟩ = some (.slice B Y.length d) := by rw [hwz]; exact cell_far (g := w.heap.size) (cell_far (g := w.heap.size) t1 (by simp; omega) 0) (by simp; omega) 1
      replace hw : Below w.heap.size w wyf5 := by rw [hwz]; exact Below.setCell' (p := ⟨w.heap.size, 1, none⟩) (by simp) (Below.setCell' (p := ⟨w.heap.size, 0, none⟩) (by simp) hw _) _
      have hkb := (((KeptBut.refl2 wdf4 w.heap.size).setg 0 (.slice A X.length c)).setg 1 (.slice B Y.length d))
      rw [← hwz] at hkb
      replace hA := hkb.own hA (by omega) (by omega)
      replace hY := hkb.own hY (by omega) (by omega)
      replace hoP := hkb.own hoP (by omega) (by omega)
      have hres : BlkT wyf5 w.heap.size (.slice A X.length c) (.slice B Y.length d) := by rw [hwz]; exact (hdr.res.set0 _).set1 _
      clear hdr r0 r1 rf0 rf1 hkb
      clear hHeld hwz
      have hHeld := hHa
      clear hHa
      refine wpAnyH_take (i := 5) (oi := ?oof6) (v := ?vvf6) ?hif6 (by kernel_rfl) (by kernel_rfl) (by kernel_rfl) ?hqf6 (Or.inl ⟨?hgf6, ?hyf6⟩) (by assumption) ?restf6
      case hif6 => simp only [List.getElem?_toArray, List.getElem?_cons_zero, List.getElem?_cons_succ]; rfl
      case hqf6 => exact fun _ _ _ h => h
      case hgf6 => rfl
      case hyf6 =>
        intro wq hSw
        obtain ⟨t0, t1, hw⟩ := hSw
        go_simp
        (try with_reducible rfl)
      (try simp only [Act.put, List.setIfInBounds_toArray, List.set_cons_zero, List.set_cons_succ])
      clear hHeld
      refine wpAnyH_done (by kernel_rfl) ?_ _
      have r0 := hres.c0
      have r1 := hres.c1
      have hw9 := Lib.hid hw
      clear hres hw t0 t1
      go_wp2
      refine bodyPost_ret (v := .tuple #[.agg #[.slice A X.length c, .slice B Y.length d], .slice P L.length p]) (by simp (maxDischargeDepth := 9) [results, Try.results73, go_sem, *]) rfl ⟨X, Y, L, A, B, P, c, d, p, rfl, hA.ints, hY.ints, hoP.ints, hX, hYl, hlP, bX, bY, hbP, hw9.out⟩
    | false =>
      go_wp2_with fail
      refine (HP.out _ 3 _ hdr (by omega) (by omega)).mono ?_
      rintro e1 w6 ⟨z, rfl, hz0, hz3, hd⟩
      replace hbx : BlkT _ gT (.slice A X.length c) (.slice B Y.length d) := (hd.2.block gT hbx.lt (by omega) (by omega)).trans hbx
      replace hdr := HD.out _ _ _ _ hdr hd
      replace hA := hd.2.own hA (by omega) (by omega)
      replace hY := hd.2.own hY (by omega) (by omega)
      clear hd
      have hq : (cutL X Y z).length ≤ 24 := Nat.le_trans (cut_len X Y z) (good_len Hr.out).2.1
      have HCt := Lib.hid (fun W (h : OwnS W (w.heap.size + 2) A X) (k : OwnS W (w.heap.size + 2) B Y) => l2CutAt_any Hr.out A B c d z W h.ints k.ints)
      have HPc := Lib.hid (fun W M Q q9 (h : OwnS W (w.heap.size + 2) A X) (k : OwnS W (w.heap.size + 2) B Y) (zz : OwnS W (w.heap.size + 2) Q M) (hl : M.length ≤ 25) (hb : Bd M) => specPaysAtCut_any A B c d X Y z Q q9 M W h.ints k.ints zz.ints bX bY hb (by omega) (by omega) (by omega) (by omega))
      go_upto_region 5 with (fail)
      have t0 := hbx.c0
      have t1 := hbx.c1
      have hw := hdr.bel
      clear hbx
      refine wp_region_held_drew (S := fun w' => w'.cell? ⟨gT, 0, none⟩ = some (.slice A X.length c) ∧ w'.cell? ⟨gT, 1, none⟩ = some (.slice B Y.length d) ∧ Below w.heap.size w w') (by kernel_rfl) ⟨t0, t1, hw.drew⟩ (fun hHeld => ?_)
      refine wpAnyH_take (i := 0) (oi := ?ook1) (v := ?vvk1) ?hik1 (by kernel_rfl) (by kernel_rfl) (by kernel_rfl) ?hqk1 (Or.inl ⟨?hgk1, ?hyk1⟩) (by assumption) ?restk1
      case hik1 => simp only [List.getElem?_toArray, List.getElem?_cons_zero]; rfl
      case hqk1 => exact fun _ _ _ h => h
      case hgk1 => rfl
      case hyk1 =>
        intro wq hSw
        obtain ⟨t0, t1, hw⟩ := hSw
        go_simp
        (try with_reducible rfl)
      (try simp only [Act.put, List.setIfInBounds_toArray, List.set_cons_zero, List.set_cons_succ])
      refine wpAnyH_take (i := 1) (oi := ?ook2) (v := ?vvk2) ?hik2 (by kernel_rfl) (by kernel_rfl) (by kernel_rfl) ?hqk2 (Or.inl ⟨?hgk2, ?hyk2⟩) (by assumption) ?restk2
      case hik2 => simp only [List.getElem?_toArray, List.getElem?_cons_zero, List.getElem?_cons_succ]; rfl
      case hqk2 => exact fun _ _ _ h => h
      case hgk2 => rfl
      case hyk2 =>
        intro wq hSw
        obtain ⟨t0, t1, hw⟩ := hSw
        go_simp
        (try with_reducible rfl)
      (try simp only [Act.put, List.setIfInBounds_toArray, List.set_cons_zero, List.set_cons_succ])
      refine wpAnyH_take (i := 2) (oi := ?ook3) (v := ?vvk3) ?hik3 (by kernel_rfl) (by kernel_rfl) (by kernel_rfl) ?hqk3 (Or.inl ⟨?hgk3, ?hyk3⟩) (by assumption) ?restk3
      case hik3 => simp only [List.getElem?_toArray, List.getElem?_cons_zero, List.getElem?_cons_succ]; rfl
      case hqk3 => exact fun _ _ _ h => h
      case hgk3 => rfl
      case hyk3 =>
        intro wq hSw
        obtain ⟨t0, t1, hw⟩ := hSw
        go_simp
        (try with_reducible rfl)
      (try simp only [Act.put, List.setIfInBounds_toArray, List.set_cons_zero, List.set_cons_succ])
      refine wpAnyH_take (i := 3) (oi := ?ook4) (v := ?vvk4) ?hik4 (by kernel_rfl) (by kernel_rfl) (by kernel_rfl) ?hqk4 (Or.inl ⟨?hgk4, ?hyk4⟩) (by assumption) ?restk4
      case hik4 => simp only [List.getElem?_toArray, List.getElem?_cons_zero, List.getElem?_cons_succ]; rfl
      case hqk4 => exact fun _ _ _ h => h
      case hgk4 => rfl
      case hyk4 =>
        intro wq hSw
        obtain ⟨t0, t1, hw⟩ := hSw
        go_simp
        (try with_reducible rfl)
      (try simp only [Act.put, List.setIfInBounds_toArray, List.set_cons_zero, List.set_cons_succ])
      refine wpAnyH_take (i := 4) (oi := ?ook5) (v := ?vvk5) ?hik5 (by kernel_rfl) (by kernel_rfl) (by kernel_rfl) ?hqk5 (Or.inl ⟨?hgk5, ?hyk5⟩) (by assumption) ?restk5
      case hik5 => simp only [List.getElem?_toArray, List.getElem?_cons_zero, List.getElem?_cons_succ]; rfl
      case hqk5 => exact fun _ _ _ h => h
      case hgk5 => rfl
      case hyk5 =>
        intro wq hSw
        obtain ⟨t0, t1, hw⟩ := hSw
        go_simp
        (try with_reducible rfl)
      (try simp only [Act.put, List.setIfInBounds_toArray, List.set_cons_zero, List.set_cons_succ])
      refine wpAnyH_ready (rs := [5]) (by kernel_rfl) (by simp) ?_
      refine AllReadyH.cons (i := 5) (o := ?ook6) ?hok6 (fun K9 hK9 => ?hstepk6) AllReadyH.nil
      case hok6 => simp only [List.getElem?_toArray, List.getElem?_cons_zero, List.getElem?_cons_succ]; rfl
      go_simp
      refine (HCt.out _ (hA.below (Below.drew (Below.refl _ _))) (hY.below (Below.drew (Below.refl _ _)))).mono ?_
      rintro e1 wzk6 ⟨A5, c5, rfl, _, hb⟩
      generalize (cutL X Y z).length = qn at *
      replace hb : Below w6.heap.size w6 wzk6 := ⟨hb.os, hb.tape, hb.output, hb.size, hb.block⟩
      replace t0 := keep_cell hb t0
      replace t1 := keep_cell hb t1
      replace hdr := hdr.below hb
      replace hA := hA.below hb
      replace hY := hY.below hb
      replace hw := keep_below hb hw
      clear hHeld
      go_wp2_with fail
      refine hK9.out _ _ ⟨t0, t1, hw⟩ (fun hHeld => ?_)
      clear hK9 K9 hb
      (try simp only [Act.put, List.setIfInBounds_toArray, List.set_cons_zero, List.set_cons_succ])
      refine wpAnyH_take (i := 6) (oi := ?ook7) (v := ?vvk7) ?hik7 (by kernel_rfl) (by kernel_rfl) (by kernel_rfl) ?hqk7 (Or.inl ⟨?hgk7, ?hyk7⟩) (by assumption) ?restk7
      case hik7 => simp only [List.getElem?_toArray, List.getElem?_cons_zero, List.getElem?_cons_succ]; rfl
      case hqk7 => exact fun _ _ _ h => h
      case hgk7 => rfl
      case hyk7 =>
        intro wq hSw
        obtain ⟨t0, t1, hw⟩ := hSw
        go_simp
        (try with_reducible rfl)
      (try simp only [Act.put, List.setIfInBounds_toArray, List.set_cons_zero, List.set_cons_succ])
      refine wpAnyH_ready (rs := [7]) (by kernel_rfl) (by simp) ?_
      refine AllReadyH.cons (i := 7) (o := ?ook8) ?hok8 (fun K9 hK9 => ?hstepk8) AllReadyH.nil
      case hok8 => simp only [List.getElem?_toArray, List.getElem?_cons_zero, List.getElem?_cons_succ]; rfl
      go_simp
      clear hHeld
      refine (HY.out _ qn _ hdr (by omega) (by omega)).mono ?_
      rintro e1 wdk8 ⟨M, Q, q9, rfl, hoQ, hlQ, hbQ, hd⟩
      replace hoQ := hoQ.mono (B' := w.heap.size + 2) hdr.siz
      replace hdr := HD.out _ _ _ _ hdr hd
      replace hA := hd.2.own hA (by omega) (by omega)
      replace hY := hd.2.own hY (by omega) (by omega)
      replace t0 := hd.2.cell t0 (by simp; omega) (by simp; omega)
      replace t1 := hd.2.cell t1 (by simp; omega) (by simp; omega)
      replace hw := hd.2.below hw (by omega) (by omega)
      clear hd
      go_wp2_with fail
      refine hK9.out _ _ ⟨t0, t1, hw⟩ (fun hHeld => ?_)
      clear hK9 K9
      (try simp only [Act.put, List.setIfInBounds_toArray, List.set_cons_zero, List.set_cons_succ])
      refine wpAnyH_ready (rs := [8]) (by kernel_rfl) (by simp) ?_
      refine AllReadyH.cons (i := 8) (o := ?ook9) ?hok9 (fun K9 hK9 => ?hstepk9) AllReadyH.nil
      case hok9 => simp only [List.getElem?_toArray, List.getElem?_cons_zero, List.getElem?_cons_succ]; rfl
      go_simp
      refine (HPc.out _ M Q q9 hA hY hoQ hlQ hbQ).mono ?_
      rintro e1 wzk9 ⟨R9, cR, rfl, hoR, hb⟩
      have hlR := pcR_len24 X Y M z
      have hbR := pcR_bd X Y M z hbQ
      generalize pcR X Y z M = RR at *
      generalize pcOk X Y z M = rr at *
      replace hoR := hoR.mono (B' := w.heap.size + 2) hdr.siz
      replace t0 := keep_cell hb t0
      replace t1 := keep_cell hb t1
      replace hdr := hdr.below hb
      replace hA := hA.below hb
      replace hY := hY.below hb
      replace hoQ := hoQ.below hb
      replace hw := keep_below hb hw
      clear hHeld
      go_wp2_with fail
      refine hK9.out _ _ ⟨t0, t1, hw⟩ (fun hHeld => ?_)
      clear hK9 K9 hb
      (try simp only [Act.put, List.setIfInBounds_toArray, List.set_cons_zero, List.set_cons_succ])
      refine wpAnyH_take (i := 9) (oi := ?ook10) (v := ?vvk10) ?hik10 (by kernel_rfl) (by kernel_rfl) (by kernel_rfl) ?hqk10 (Or.inl ⟨?hgk10, ?hyk10⟩) (by assumption) ?restk10
      case hik10 => simp only [List.getElem?_toArray, List.getElem?_cons_zero, List.getElem?_cons_succ]; rfl
      case hqk10 => exact fun _ _ _ h => h
      case hgk10 => rfl
      case hyk10 =>
        intro wq hSw
        obtain ⟨t0, t1, hw⟩ := hSw
        go_simp
        (try with_reducible rfl)
      (try simp only [Act.put, List.setIfInBounds_toArray, List.set_cons_zero, List.set_cons_succ])
      refine wpAnyH_take (i := 10) (oi := ?ook11) (v := ?vvk11) ?hik11 (by kernel_rfl) (by kernel_rfl) (by kernel_rfl) ?hqk11 (Or.inl ⟨?hgk11, ?hyk11⟩) (by assumption) ?restk11
      case hik11 => simp only [List.getElem?_toArray, List.getElem?_cons_zero, List.getElem?_cons_succ]; rfl
      case hqk11 => exact fun _ _ _ h => h
      case hgk11 => rfl
      case hyk11 =>
        intro wq hSw
        obtain ⟨t0, t1, hw⟩ := hSw
        go_simp
        (try with_reducible rfl)
      (try simp only [Act.put, List.setIfInBounds_toArray, List.set_cons_zero, List.set_cons_succ])
      refine wpAnyH_take (i := 11) (oi := ?ook12) (v := ?vvk12) ?hik12 (by kernel_rfl) (by kernel_rfl) (by kernel_rfl) ?hqk12 (Or.inl ⟨?hgk12, ?hyk12⟩) (by assumption) ?restk12
      case hik12 => simp only [List.getElem?_toArray, List.getElem?_cons_zero, List.getElem?_cons_succ]; rfl
      case hqk12 => exact fun _ _ _ h => h
      case hgk12 => rfl
      case hyk12 =>
        intro wq hSw
        obtain ⟨t0, t1, hw⟩ := hSw
        go_simp
        (try with_reducible rfl)
      (try simp only [Act.put, List.setIfInBounds_toArray, List.set_cons_zero, List.set_cons_succ])
      refine wpAnyH_take (i := 12) (oi := ?ook13) (v := ?vvk13) ?hik13 (by kernel_rfl) (by kernel_rfl) (by kernel_rfl) ?hqk13 (Or.inl ⟨?hgk13, ?hyk13⟩) (by assumption) ?restk13
      case hik13 => simp only [List.getElem?_toArray, List.getElem?_cons_zero, List.getElem?_cons_succ]; rfl
      case hqk13 => exact fun _ _ _ h => h
      case hgk13 => rfl
      case hyk13 =>
        intro wq hSw
        obtain ⟨t0, t1, hw⟩ := hSw
        go_simp
        (try with_reducible rfl)
      (try simp only [Act.put, List.setIfInBounds_toArray, List.set_cons_zero, List.set_cons_succ])
      refine wpAnyH_take (i := 13) (oi := ?ook14) (v := ?vvk14) ?hik14 (by kernel_rfl) (by kernel_rfl) (by kernel_rfl) ?hqk14 (Or.inl ⟨?hgk14, ?hyk14⟩) (by assumption) ?restk14
      case hik14 => simp only [List.getElem?_toArray, List.getElem?_cons_zero, List.getElem?_cons_succ]; rfl
      case hqk14 => exact fun _ _ _ h => h
      case hgk14 => rfl
      case hyk14 =>
        intro wq hSw
        obtain ⟨t0, t1, hw⟩ := hSw
        go_simp
        (try with_reducible rfl)
      (try simp only [Act.put, List.setIfInBounds_toArray, List.set_cons_zero, List.set_cons_succ])
      clear hHeld
      refine wpAnyH_done (by kernel_rfl) ?_ _
      cases rr with
      | false =>
        go_upto_region 8 with (fail)
        refine wp_region_held_drew (S := fun w' => w'.cell? ⟨gT, 0, none⟩ = some (.slice A X.length c) ∧ w'.cell? ⟨gT, 1, none⟩ = some (.slice B Y.length d) ∧ Below w.heap.size w w') (by kernel_rfl) ⟨t0, t1, hw.drew⟩ (fun hHeld => ?_)
        refine wpAnyH_take (i := 0) (oi := ?oon1) (v := ?vvn1) ?hin1 (by kernel_rfl) (by kernel_rfl) (by kernel_rfl) ?hqn1 (Or.inl ⟨?hgn1, ?hyn1⟩) (by assumption) ?restn1
        case hin1 => simp only [List.getElem?_toArray, List.getElem?_cons_zero]; rfl
        case hqn1 => exact fun _ _ _ h => h
        case hgn1 => rfl
        case hyn1 =>
          intro wq hSw
          obtain ⟨t0, t1, hw⟩ := hSw
          go_simp
          (try with_reducible rfl)
        (try simp only [Act.put, List.setIfInBounds_toArray, List.set_cons_zero, List.set_cons_succ])
        refine wpAnyH_take (i := 1) (oi := ?oon2) (v := ?vvn2) ?hin2 (by kernel_rfl) (by kernel_rfl) (by kernel_rfl) ?hqn2 (Or.inl ⟨?hgn2, ?hyn2⟩) (by assumption) ?restn2
        case hin2 => simp only [List.getElem?_toArray, List.getElem?_cons_zero, List.getElem?_cons_succ]; rfl
        case hqn2 => exact fun _ _ _ h => h
        case hgn2 => rfl
        case hyn2 =>
          intro wq hSw
          obtain ⟨t0, t1, hw⟩ := hSw
          go_simp
          (try with_reducible rfl)
        (try simp only [Act.put, List.setIfInBounds_toArray, List.set_cons_zero, List.set_cons_succ])
        refine wpAnyH_take (i := 2) (oi := ?oon3) (v := ?vvn3) ?hin3 (by kernel_rfl) (by kernel_rfl) (by kernel_rfl) ?hqn3 (Or.inl ⟨?hgn3, ?hyn3⟩) (by assumption) ?restn3
        case hin3 => simp only [List.getElem?_toArray, List.getElem?_cons_zero, List.getElem?_cons_succ]; rfl
        case hqn3 => exact fun _ _ _ h => h
        case hgn3 => rfl
        case hyn3 =>
          intro wq hSw
          obtain ⟨t0, t1, hw⟩ := hSw
          go_simp
          (try with_reducible rfl)
        (try simp only [Act.put, List.setIfInBounds_toArray, List.set_cons_zero, List.set_cons_succ])
        refine wpAnyH_ready (rs := [3]) (by kernel_rfl) (by simp) ?_
        refine AllReadyH.cons (i := 3) (o := ?oon4) ?hon4 (fun K9 hK9 => ?hstepn4) AllReadyH.nil
        case hon4 => simp only [List.getElem?_toArray, List.getElem?_cons_zero, List.getElem?_cons_succ]; rfl
        go_simp
        replace hdr := hdr.below (Below.drew (Below.refl _ _))
        replace hA := hA.below (Below.drew (Below.refl _ _))
        replace hY := hY.below (Below.drew (Below.refl _ _))
        replace t0 : wzk9.drew.cell? ⟨gT, 0, none⟩ = some (.slice A X.length c) := t0
        replace t1 : wzk9.drew.cell? ⟨gT, 1, none⟩ = some (.slice B Y.length d) := t1
        replace hw := hw.drew
        clear hHeld
        refine (HL.out _ _ _ _ _ _ _ _ hdr hA hY (by omega) bX bY hX hYl).mono ?_
        rintro e1 wdn4 ⟨L, P, p, rfl, hoP, hlP, hbP, hd⟩
        replace hoP := hoP.mono (B' := w.heap.size + 2) hdr.siz
        replace hdr := HD.out _ _ _ _ hdr hd
        replace hA := hd.2.own hA (by omega) (by omega)
        replace hY := hd.2.own hY (by omega) (by omega)
        replace t0 := hd.2.cell t0 (by simp; omega) (by simp; omega)
        replace t1 := hd.2.cell t1 (by simp; omega) (by simp; omega)
        replace hw := hd.2.below hw (by omega) (by omega)
        clear hd
        go_wp2_with fail
        refine hK9.out _ _ ⟨t0, t1, hw⟩ (fun hHeld => ?_)
        clear hK9 K9
        (try simp only [Act.put, List.setIfInBounds_toArray, List.set_cons_zero, List.set_cons_succ])
        refine wpAnyH_ready (rs := [4]) (by kernel_rfl) (by simp) ?_
        refine AllReadyH.cons (i := 4) (o := ?oon5) ?hon5 (fun K9 hK9 => ?hstepn5) AllReadyH.nil
        case hon5 => simp only [List.getElem?_toArray, List.getElem?_cons_zero, List.getElem?_cons_succ]; rfl
        have r0 := hdr.res.c0
        have r1 := hdr.res.c1
        have rf0 := hdr.res.free 0
        have rf1 := hdr.res.free 1
        go_simp
        clear hHeld
        refine hK9.out _ _ ⟨cell_far (g := w.heap.size) (cell_far (g := w.heap.size) t0 (by simp; omega) 0) (by simp; omega) 1, cell_far (g := w.heap.size) (cell_far (g := w.heap.size) t1 (by simp; omega) 0) (by simp; omega) 1, Below.setCell' (p := ⟨w.heap.size, 1, none⟩) (by simp) (Below.setCell' (p := ⟨w.heap.size, 0, none⟩) (by simp) hw _) _⟩ (fun hHeld => ?_)
        clear hK9 K9
        (try simp only [Act.put, List.setIfInBounds_toArray, List.set_cons_zero, List.set_cons_succ])
        refine wpAnyH_name hHeld (fun wyn5 hHa hwz => ?_)
        replace t0 : wyn5.cell? ⟨gT, 0, none⟩ = some (.slice A X.length c) := by rw [hwz]; exact cell_far (g := w.heap.size) (cell_far (g := w.heap.size) t0 (by simp; omega) 0) (by simp; omega) 1
        replace t1 : wyn5.cell? ⟨gT, 1, none⟩ = some (.slice B Y.length d) := by rw [hwz]; exact cell_far (g := w.heap.size) (cell_far (g := w.heap.size) t1 (by simp; omega) 0) (by simp; omega) 1
        replace hw : Below w.heap.size w wyn5 := by rw [hwz]; exact Below.setCell' (p := ⟨w.heap.size, 1, none⟩) (by simp) (Below.setCell' (p := ⟨w.heap.size, 0, none⟩) (by simp) hw _) _
        have hkb := (((KeptBut.refl2 wdn4 w.heap.size).setg 0 (.slice A X.length c)).setg 1 (.slice B Y.length d))
        rw [← hwz] at hkb
        replace hA := hkb.own hA (by omega) (by omega)
        replace hY := hkb.own hY (by omega) (by omega)
        replace hoP := hkb.own hoP (by omega) (by omega)
        have hres : BlkT wyn5 w.heap.size (.slice A X.length c) (.slice B Y.length d) := by rw [hwz]; exact (hdr.res.set0 _).set1 _
        clear hdr r0 r1 rf0 rf1 hkb
        clear hHeld hwz
        have hHeld := hHa
        clear hHa
        refine wpAnyH_take (i := 5) (oi := ?oon6) (v := ?vvn6) ?hin6 (by kernel_rfl) (by kernel_rfl) (by kernel_rfl) ?hqn6 (Or.inl ⟨?hgn6, ?hyn6⟩) (by assumption) ?restn6
        case hin6 => simp only [List.getElem?_toArray, List.getElem?_cons_zero, List.getElem?_cons_succ]; rfl
        case hqn6 => exact fun _ _ _ h => h
        case hgn6 => rfl
        case hyn6 =>
          intro wq hSw
          obtain ⟨t0, t1, hw⟩ := hSw
          go_simp
          (try with_reducible rfl)
        (try simp only [Act.put, List.setIfInBounds_toArray, List.set_cons_zero, List.set_cons_succ])
        clear hHeld
        refine wpAnyH_done (by kernel_rfl) ?_ _
        have r0 := hres.c0
        have r1 := hres.c1
        have hw9 := Lib.hid hw
        clear hres hw t0 t1
        go_wp2
        refine bodyPost_ret (v := .tuple #[.agg #[.slice A X.length c, .slice B Y.length d], .slice P L.length p]) (by simp (maxDischargeDepth := 9) [results, Try.results73, go_sem, *]) rfl ⟨X, Y, L, A, B, P, c, d, p, rfl, hA.ints, hY.ints, hoP.ints, hX, hYl, hlP, bX, bY, hbP, hw9.out⟩
      | true =>
        have r0 := hdr.res.c0
        have r1 := hdr.res.c1
        have rf0 := hdr.res.free 0
        have rf1 := hdr.res.free 1
        have hkb := ((KeptBut.refl2 wzk9 w.heap.size).setg 0 (.slice A X.length c)).setg 1 (.slice B Y.length d)
        replace hA := hkb.own hA (by omega) (by omega)
        replace hY := hkb.own hY (by omega) (by omega)
        replace hoR := hkb.own hoR (by omega) (by omega)
        have hw9 : Below w.heap.size w ((wzk9.setCell ⟨w.heap.size, 0, none⟩ (.slice A X.length c)).setCell ⟨w.heap.size, 1, none⟩ (.slice B Y.length d)) := Below.setCell' (p := ⟨w.heap.size, 1, none⟩) (Nat.le_refl _) (Below.setCell' (p := ⟨w.heap.size, 0, none⟩) (Nat.le_refl _) hw _) _
        have hwH := Lib.hid hw9
        clear hw hw9 hdr hkb
        go_wp2
        refine bodyPost_ret (v := .tuple #[.agg #[.slice A X.length c, .slice B Y.length d], .slice R9 RR.length cR]) (by simp (maxDischargeDepth := 9) [results, Try.results73, go_sem, *]) rfl ⟨X, Y, RR, A, B, R9, c, d, cR, rfl, hA.ints, hY.ints, hoR.ints, hX, hYl, by omega, bX, bY, hbR, hwH.out⟩
end Go.Proofs.Ytombfbmcplefgaa
/- Plain: pays that are known by a cut. -/
namespace Go.Proofs.Ytombfbmcplefgaa
open Go.ChangeShapes Go.WideShapes Go.ChangeAt Go.RowKit

theorem und_iff {xs ys : List Int} (hg : good xs ys = true) {d : Int} (hd : 0 ≤ d) {y : Nat} (hy : y < xs.length) (he : 0 < nth ys y) {k z : Nat} (hk : k < (cutL xs ys d).length) (hz : nth (cutL xs ys d) k = z) :
    underB xs z y = decide (ovX xs (cutL xs ys d) y = k) := by
  obtain ⟨m, h1, h2, q, h3, h4, h5, h6⟩ := cut_at hg hd hy he
  rw [h1]
  by_cases e : k = m
  · subst e
    have : z = q := by omega
    rw [this, h5]; exact (decide_eq_true rfl).symm
  · rw [decide_eq_false (by omega)]
    rcases Nat.lt_or_gt_of_ne e with e | e
    · obtain ⟨z', z1, _, z3⟩ := h6 k e
      have : z = z' := by omega
      rw [this]; exact z3
    · cases hb : underB xs z y with
      | false => rfl
      | true =>
        obtain ⟨z', z1, z2, z3⟩ := pick_mem (f := inCut xs ys d) (k := xs.length) hk
        change nth (cutL xs ys d) k = z' at z1
        obtain ⟨q', q1, q2, q3⟩ := pick_mem (f := inCut xs ys d) (k := xs.length) h2
        change nth (cutL xs ys d) m = q' at q1
        have e1 : z = z' := by omega
        have e2 : q = q' := by omega
        subst e1 e2
        have e3 := cut_one hg hy (hasB_mem.1 hb) (hasB_mem.1 h5) z3 q3
        have := asc_lt (asc_pick (inCut xs ys d) xs.length) e hk
        change nth (cutL xs ys d) m < nth (cutL xs ys d) k at this
        omega

/-- Ends of the same node have the same pay. -/
def knB (R vs : List Int) : Bool := (List.range R.length).all fun i => (List.range i).all fun k => decide (nth R i = nth R k → nth vs i = nth vs k)
theorem knB_iff {R vs : List Int} : knB R vs = true ↔ ∀ i k, i < R.length → k < i → nth R i = nth R k → nth vs i = nth vs k := by
  unfold knB
  simp only [List.all_eq_true, List.mem_range, decide_eq_true_eq]
  exact ⟨fun h i k hi hk => h i hi k hk, fun h i hi k hk => h i k hi hk⟩
theorem knB_no {R vs : List Int} {i k : Nat} (hi : i < R.length) (hk : k < i) (h1 : nth R i = nth R k) (h2 : nth vs i ≠ nth vs k) : knB R vs = false := by
  cases h : knB R vs with
  | false => rfl
  | true => exact absurd (knB_iff.1 h i k hi hk h1) h2

def leastB (P : Nat → Bool) : Nat → Nat
  | 0 => 0
  | n + 1 => if P (leastB P n) then leastB P n else n + 1
theorem least_inv (P : Nat → Bool) : ∀ n, (P (leastB P n) = true ∨ leastB P n = n) ∧ ∀ d, d < leastB P n → P d = false
  | 0 => ⟨.inr rfl, fun d h => by simp [leastB] at h⟩
  | n + 1 => by
    obtain ⟨h1, h2⟩ := least_inv P n
    unfold leastB
    by_cases h : P (leastB P n) = true
    · rw [if_pos h]; exact ⟨.inl h, h2⟩
    · rw [if_neg h]
      have e : leastB P n = n := h1.resolve_left h
      refine ⟨.inr rfl, fun d hd => ?_⟩
      by_cases e2 : d = n
      · rw [e] at h; rw [e2]; simpa using h
      · exact h2 d (by omega)
theorem least_eq {P : Nat → Bool} {n d : Nat} (h1 : d ≤ n) (h2 : P d = true) (h3 : ∀ k, k < d → P k = false) : leastB P n = d := by
  obtain ⟨a, b⟩ := least_inv P n
  rcases Nat.lt_trichotomy (leastB P n) d with h | h | h
  · rcases a with a | a
    · rw [h3 _ h] at a; cases a
    · omega
  · exact h
  · rw [b d h] at h2; cases h2

theorem dpt_le {xs : List Int} (hu : ∀ j, 1 ≤ j → j < xs.length → ∃ p : Nat, nth xs j = p ∧ p < j) : ∀ q, q < xs.length → dpt xs q ≤ q := by
  intro q
  induction q using Nat.strongRecOn with
  | ind q ih =>
    intro hq
    by_cases h0 : q = 0
    · subst h0; rw [dpt_root (by omega)]; exact Int.le_refl _
    · obtain ⟨p, hp, hpq⟩ := hu q (by omega) hq
      have h1 := dpt_step (by omega) hq hp hpq
      have h2 := ih p hpq (by omega)
      omega
/-- Below the greatest depth each end is its own node. -/
theorem kn_top {xs ys : List Int} (hg : good xs ys = true) (vs : List Int) : knB (ovL xs (cutL xs ys xs.length)) vs = true := by
  rw [knB_iff]
  intro i k hi hk he
  exfalso
  have hu := good_upL hg
  have hl := ovL_len xs (cutL xs ys xs.length)
  obtain ⟨y, y1, y2, y3⟩ := end_pos hg (j := i) (by omega)
  obtain ⟨u, u1, u2, u3⟩ := end_pos hg (j := k) (by omega)
  have e1 : nth (ovL xs (cutL xs ys xs.length)) i = ovX xs (cutL xs ys xs.length) y := by unfold ovL; rw [mapI_nth _ _ (by omega), y1]
  have e2 : nth (ovL xs (cutL xs ys xs.length)) k = ovX xs (cutL xs ys xs.length) u := by unfold ovL; rw [mapI_nth _ _ (by omega), u1]
  rw [e1, e2] at he
  have key : ∀ {y : Nat} (_ : y < xs.length) (_ : 0 < nth ys y), ∃ m : Nat, ovX xs (cutL xs ys xs.length) y = m ∧ nth (cutL xs ys xs.length) m = y := fun {y} hy hp => by
    obtain ⟨m, h1, h2, q, h3, h4, h5, _⟩ := cut_at hg (d := (xs.length : Int)) (by omega) hy hp
    obtain ⟨q', q1, q2, q3⟩ := pick_mem (f := inCut xs ys xs.length) (k := xs.length) h2
    change nth (cutL xs ys xs.length) m = q' at q1
    have e : q = q' := by omega
    subst e
    rw [cut_iff] at q3
    have hd := dpt_le hu q h4
    have hc : 0 < nth ys q := by
      rcases q3 with q3 | q3
      · omega
      · exact q3.2
    obtain ⟨z, z1, _, _, z4⟩ := up_dpt hu y hy _ (hasB_mem.1 h5)
    have e : q = z := by omega
    subst e
    refine ⟨m, h1, ?_⟩
    by_cases e : q = y
    · rw [h3, e]
    · have h6 := wt_end hg h4
      rw [(z4 e).2] at h6
      exact absurd hc (of_decide_eq_false h6)
  obtain ⟨m, m1, m2⟩ := key y2 y3
  obtain ⟨m', n1, n2⟩ := key u2 u3
  have em : m = m' := by omega
  subst em
  have := asc_lt (asc_pick (noKid xs xs.length) xs.length) hk (show i < (pick (noKid xs xs.length) xs.length).length by change i < (endsL xs).length; omega)
  change nth (endsL xs) k < nth (endsL xs) i at this
  omega
def kaAt (xs ys vs : List Int) (d : Nat) : Bool := knB (ovL xs (cutL xs ys d)) vs
noncomputable def kaOk (xs ys vs : List Int) : Bool := good xs ys && payB xs vs
noncomputable def kaR (xs ys vs : List Int) : Int := if kaOk xs ys vs then (leastB (kaAt xs ys vs) xs.length : Nat) else 0
theorem kaR_no {xs ys vs : List Int} (h : kaOk xs ys vs = false) : kaR xs ys vs = 0 := by unfold kaR; rw [h]; rfl
theorem kaR_yes {xs ys vs : List Int} (h : kaOk xs ys vs = true) : kaR xs ys vs = (leastB (kaAt xs ys vs) xs.length : Nat) := by unfold kaR; rw [h]; rfl
end Go.Proofs.Ytombfbmcplefgaa
/- Contracts: the time when pays are known. -/
namespace Go.Proofs.Ytombfbmcplefgaa
open Go.ChangeShapes Go.WideShapes Go.ChangeAt Go.RowKit

theorem ov_nth {xs ys : List Int} (hg : good xs ys = true) (d : Nat) {j : Nat} (hj : j < (endsL xs).length) : ∃ y m : Nat, nth (endsL xs) j = y ∧ y < xs.length ∧ nth (ovL xs (cutL xs ys d)) j = m ∧ m < (cutL xs ys d).length ∧ ∀ k z : Nat, k < (cutL xs ys d).length → nth (cutL xs ys d) k = z → underB xs z y = decide (m = k) := by
  obtain ⟨y, h1, h2, h3⟩ := end_pos hg hj
  obtain ⟨m, h4, h5, _⟩ := cut_at hg (d := (d : Int)) (by omega) h2 h3
  refine ⟨y, m, h1, h2, by unfold ovL; rw [mapI_nth _ _ hj, h1]; exact h4, h5, fun k z hk hz => ?_⟩
  rw [und_iff hg (d := (d : Int)) (by omega) h2 h3 hk hz, h4]
  by_cases e : m = k
  · rw [decide_eq_true (by omega), decide_eq_true e]
  · rw [decide_eq_false (by omega), decide_eq_false e]
theorem cut_nd {xs ys : List Int} {d : Int} {k : Nat} (hk : k < (cutL xs ys d).length) : ∃ z : Nat, nth (cutL xs ys d) k = z ∧ z < xs.length := by
  obtain ⟨z, z1, z2, _⟩ := pick_mem (f := inCut xs ys d) (k := xs.length) hk
  exact ⟨z, z1, z2⟩
set_option maxHeartbeats 4000000 in
set_option maxRecDepth 100000 in
theorem l2Same_good {xs ys : List Int} (hg : good xs ys = true) (A B V : Option Addr) (c e cv : Nat) (vs : List Int) (d : Nat) (w : World) (h : IntS w A xs) (k : IntS w B ys) (zv : IntS w V vs) (hvl : vs.length = (endsL xs).length) :
    Calls Try.prog 90 #[.agg #[.slice A xs.length c, .slice B ys.length e], .slice V vs.length cv, .int .i64 d] w fun e1 w' => e1 = .returned (.bool (kaAt xs ys vs d)) ∧ Below w.heap.size w w' := by
  have HCu := Lib.hid (fun W (h : IntS W A xs) (k : IntS W B ys) => l2CutAt_any hg A B c e (d : Int) W h k)
  have HE := Lib.hid (fun W (h : IntS W A xs) => l2Ends_any A B c ys.length e xs W h (by have := good_len hg; omega) (good_iff.1 hg).2.1 (good_root hg))
  have hE1 := Lib.hid (ends_pos hg)
  have hC1 := Lib.hid (cut_pos hg (d := (d : Int)) (by omega))
  have HUn := Lib.hid (fun W (x y : Nat) (h : IntS W A xs) (hx : x < xs.length) (hy : y < xs.length) => l2Under_good hg A B c e x y W h hx hy)
  have HEM := Lib.hid (fun j (hj : j < (endsL xs).length) => ov_nth hg d hj)
  have HCM := Lib.hid (fun j (hj : j < (cutL xs ys d).length) => cut_nd hj)
  have hRL := Lib.hid (ovL_len xs (cutL xs ys d))
  have hgl := (good_len hg).2.1
  have hel := ends_len xs
  have hE24 : (endsL xs).length ≤ 24 := by omega
  have hcl := cut_len xs ys d
  have hC24 : (cutL xs ys d).length ≤ 24 := by omega
  have HVL := Lib.hid hvl
  obtain ⟨r, hr⟩ : ∃ r, kaAt xs ys vs d = r := ⟨_, rfl⟩
  rw [hr]
  unfold kaAt at hr
  have HR := Lib.hid hr
  clear hr hgl hel hcl hvl hg
  generalize ovL xs (cutL xs ys d) = R at *
  generalize cutL xs ys d = C at *
  generalize endsL xs = E at *
  go_enter Try.func90, Try.ntmps90
  obtain ⟨w0, hw0⟩ : ∃ w0, w0 = w.alloc (.cells #[.slice A xs.length c, .slice B ys.length e] 28) := ⟨_, rfl⟩
  have hx0 : w0.cell? ⟨w.heap.size, 0, none⟩ = some (.slice A xs.length c) := by rw [hw0]; simp
  have hx1 : w0.cell? ⟨w.heap.size, 1, none⟩ = some (.slice B ys.length e) := by rw [hw0]; simp
  have hw : Below w.heap.size w w0 := by rw [hw0]; (repeat (first | with_reducible exact Below.refl _ _ | with_reducible assumption | with_reducible refine Below.alloc' ?_ ?_ _ | with_reducible refine Below.setCell' ?_ ?_ _ | with_reducible refine Below.drewN' ?_ _ | with_reducible refine Below.drew ?_ | with_reducible refine Below.transA ?_ (by assumption) ?_ | omega | (focus (simp; done)) | (focus (simp; omega))))
  have HW0 := Lib.hid hw0
  clear hw0
  go_wp2
  rw [← HW0.out]
  clear HW0
  refine wp_region_held_drew (S := fun w' => Below w0.heap.size w0 w') (by kernel_rfl) ((Below.refl _ _)).drew (fun hHeld => ?_)
  replace hw := hw.drew
  refine wpAnyH_take (i := 0) (oi := ?oos1) (v := ?vvs1) ?his1 (by kernel_rfl) (by kernel_rfl) (by kernel_rfl) ?hqs1 (Or.inl ⟨?hgs1, ?hys1⟩) (by assumption) ?rests1
  case his1 => simp only [List.getElem?_toArray, List.getElem?_cons_zero]; rfl
  case hqs1 => exact fun _ _ _ h => h
  case hgs1 => rfl
  case hys1 =>
    intro wq hSw
    replace hx0 := keep_cell hSw hx0
    replace hx1 := keep_cell hSw hx1
    go_simp
    (try with_reducible rfl)
  (try simp only [Act.put, List.setIfInBounds_toArray, List.set_cons_zero, List.set_cons_succ])
  refine wpAnyH_take (i := 1) (oi := ?oos2) (v := ?vvs2) ?his2 (by kernel_rfl) (by kernel_rfl) (by kernel_rfl) ?hqs2 (Or.inl ⟨?hgs2, ?hys2⟩) (by assumption) ?rests2
  case his2 => simp only [List.getElem?_toArray, List.getElem?_cons_zero, List.getElem?_cons_succ]; rfl
  case hqs2 => exact fun _ _ _ h => h
  case hgs2 => rfl
  case hys2 =>
    intro wq hSw
    replace hx0 := keep_cell hSw hx0
    replace hx1 := keep_cell hSw hx1
    go_simp
    (try with_reducible rfl)
  (try simp only [Act.put, List.setIfInBounds_toArray, List.set_cons_zero, List.set_cons_succ])
  refine wpAnyH_take (i := 3) (oi := ?oos3) (v := ?vvs3) ?his3 (by kernel_rfl) (by kernel_rfl) (by kernel_rfl) ?hqs3 (Or.inl ⟨?hgs3, ?hys3⟩) (by assumption) ?rests3
  case his3 => simp only [List.getElem?_toArray, List.getElem?_cons_zero, List.getElem?_cons_succ]; rfl
  case hqs3 => exact fun _ _ _ h => h
  case hgs3 => rfl
  case hys3 =>
    intro wq hSw
    replace hx0 := keep_cell hSw hx0
    replace hx1 := keep_cell hSw hx1
    go_simp
    (try with_reducible rfl)
  (try simp only [Act.put, List.setIfInBounds_toArray, List.set_cons_zero, List.set_cons_succ])
  refine wpAnyH_ready (rs := [2]) (by kernel_rfl) (by simp) ?_
  refine AllReadyH.cons (i := 2) (o := ?oos4) ?hos4 (fun K hK => ?hsteps4) AllReadyH.nil
  case hos4 => simp only [List.getElem?_toArray, List.getElem?_cons_zero, List.getElem?_cons_succ]; rfl
  go_simp
  refine (HCu.out _ (h.below hw) (k.below hw)).mono ?_
  rintro e1 wz ⟨A8, c8, rfl, ho8, hb⟩
  obtain ⟨gC, rfl, hgC, hrC⟩ := ho8.pos hC1.out
  clear ho8 hgC
  go_wp2_with fail
  refine hK.out _ _ (keep_below hb hHeld) (fun _ => ?_)
  clear hK K
  (try simp only [Act.put, List.setIfInBounds_toArray, List.set_cons_zero, List.set_cons_succ])
  refine wpAnyH_mono (S' := fun w' => Below wz.heap.size wz w') (fun _ h => keep_below h (keep_below hb hHeld)) _ _ _ _ ?_
  replace hw := keep_below hb hw
  replace hx0 := keep_cell hb hx0
  replace hx1 := keep_cell hb hx1
  clear hHeld hb
  have hHeld : Below wz.heap.size wz wz := (Below.refl _ _)
  refine wpAnyH_ready (rs := [4]) (by kernel_rfl) (by simp) ?_
  refine AllReadyH.cons (i := 4) (o := ?oos5) ?hos5 (fun K hK => ?hsteps5) AllReadyH.nil
  case hos5 => simp only [List.getElem?_toArray, List.getElem?_cons_zero, List.getElem?_cons_succ]; rfl
  go_simp
  refine (HE.out _ (h.below hw)).mono ?_
  rintro e1 wz ⟨A7, c7, rfl, ho7, hb⟩
  replace hrC := hrC.below hb
  obtain ⟨gE, rfl, hgE, hrE⟩ := ho7.pos hE1.out
  clear ho7 hgE
  go_wp2_with fail
  refine hK.out _ _ (keep_below hb hHeld) (fun _ => ?_)
  clear hK K
  (try simp only [Act.put, List.setIfInBounds_toArray, List.set_cons_zero, List.set_cons_succ])
  refine wpAnyH_mono (S' := fun w' => Below wz.heap.size wz w') (fun _ h => keep_below h (keep_below hb hHeld)) _ _ _ _ ?_
  replace hw := keep_below hb hw
  replace hx0 := keep_cell hb hx0
  replace hx1 := keep_cell hb hx1
  clear hHeld hb
  have hHeld : Below wz.heap.size wz wz := (Below.refl _ _)
  refine wpAnyH_take (i := 5) (oi := ?oos6) (v := ?vvs6) ?his6 (by kernel_rfl) (by kernel_rfl) (by kernel_rfl) ?hqs6 (Or.inl ⟨?hgs6, ?hys6⟩) (by assumption) ?rests6
  case his6 => simp only [List.getElem?_toArray, List.getElem?_cons_zero, List.getElem?_cons_succ]; rfl
  case hqs6 => exact fun _ _ _ h => h
  case hgs6 => rfl
  case hys6 =>
    intro wq hSw
    replace hx0 := keep_cell hSw hx0
    replace hx1 := keep_cell hSw hx1
    go_simp
    (try with_reducible rfl)
  (try simp only [Act.put, List.setIfInBounds_toArray, List.set_cons_zero, List.set_cons_succ])
  refine wpAnyH_take (i := 6) (oi := ?oos7) (v := ?vvs7) ?his7 (by kernel_rfl) (by kernel_rfl) (by kernel_rfl) ?hqs7 (Or.inl ⟨?hgs7, ?hys7⟩) (by assumption) ?rests7
  case his7 => simp only [List.getElem?_toArray, List.getElem?_cons_zero, List.getElem?_cons_succ]; rfl
  case hqs7 => exact fun _ _ _ h => h
  case hgs7 => rfl
  case hys7 =>
    intro wq hSw
    replace hx0 := keep_cell hSw hx0
    replace hx1 := keep_cell hSw hx1
    go_simp
    (try with_reducible rfl)
  (try simp only [Act.put, List.setIfInBounds_toArray, List.set_cons_zero, List.set_cons_succ])
  clear hHeld
  refine wpAnyH_done (by kernel_rfl) ?_ _
  go_wp2
  go_loopw [9] (fun kv wr => ∃ q : Nat, q ≤ C.length ∧ kv = .int .i64 q ∧ Hid (∀ p, p < q → ∀ i j, i < E.length → j < i → nth R i = (p : Nat) → nth R j = (p : Nat) → nth vs i = nth vs j) ∧ Row wr gC C ∧ Row wr gE E ∧ wr.cell? ⟨w.heap.size, 0, none⟩ = some (.slice A xs.length c) ∧ wr.cell? ⟨w.heap.size, 1, none⟩ = some (.slice B ys.length e) ∧ Below w.heap.size w wr) (fun kv _ => C.length - (intOf kv).toNat)
  case atStart => exact ⟨0, by omega, rfl, fun p hp => by omega, hrC, hrE, hx0, hx1, hw⟩
  case round =>
    clear hrC hrE hx0 hx1 hw
    obtain ⟨q, hq, rfl, HP, hrC, hrE, hx0, hx1, hw⟩ := hrel
    by_cases hlt : q < C.length
    · have i1 : (q : Int) < C.length := by omega
      obtain ⟨z, hz, hzn⟩ := HCM.out q hlt
      have HZ := Lib.hid hz
      clear hz
      go_wp2
      go_loopw [10, 11] (fun fv iv wr => ∃ i : Nat, i ≤ E.length ∧ ((fv = .int .i64 (-1) ∧ Hid (∀ j, j < i → nth R j ≠ (q : Int))) ∨ ∃ f : Nat, f < i ∧ fv = .int .i64 f ∧ nth R f = (q : Int) ∧ Hid (∀ j, j < i → nth R j = (q : Int) → nth vs j = nth vs f)) ∧ iv = .int .i64 i ∧ Hid (∀ a b, a < i → b < a → nth R a = (q : Int) → nth R b = (q : Int) → nth vs a = nth vs b) ∧ Row wr gC C ∧ Row wr gE E ∧ wr.cell? ⟨w.heap.size, 0, none⟩ = some (.slice A xs.length c) ∧ wr.cell? ⟨w.heap.size, 1, none⟩ = some (.slice B ys.length e) ∧ Below w.heap.size w wr) (fun _ iv _ => E.length - (intOf iv).toNat)
      case atStart => exact ⟨0, by omega, .inl ⟨rfl, fun j hj => by omega⟩, rfl, fun a b ha => by omega, hrC, hrE, hx0, hx1, hw⟩
      case round =>
        clear hrC hrE hx0 hx1 hw
        obtain ⟨i, hi, hfirst, rfl, HS, hrC, hrE, hx0, hx1, hw⟩ := hrel
        by_cases hlt2 : i < E.length
        · have i2 : (i : Int) < E.length := by omega
          have hiv : i < vs.length := by rw [HVL.out]; exact hlt2
          have i3 : (i : Int) < vs.length := by omega
          obtain ⟨y, m, hy, hyn, hm, hmc, hun⟩ := HEM.out i hlt2
          have hcE := hrE.cell hlt2
          rw [hy] at hcE
          have hcC := hrC.cell hlt
          rw [HZ.out] at hcC
          have HC9 := Lib.hid (fun W (h : IntS W A xs) => HUn.out W z y h hzn hyn)
          rw [hun q z hlt HZ.out] at HC9
          have HM := Lib.hid hm
          clear hy hun hm
          by_cases hmq : m = q
          · subst hmq
            rw [decide_eq_true rfl] at HC9
            rcases hfirst with ⟨rfl, HF⟩ | ⟨f, hf, rfl, hfm, HF⟩
            · have HS' : Hid (∀ a b, a < i + 1 → b < a → nth R a = (m : Int) → nth R b = (m : Int) → nth vs a = nth vs b) := fun a b ha hb h1 h2 => absurd h2 (HF.out b (by omega))
              have HF' : Hid (∀ j, j < i + 1 → nth R j = (m : Int) → nth vs j = nth vs i) := fun j hj hjq => by
                by_cases e : j = i
                · rw [e]
                · exact absurd hjq (HF.out j (by omega))
              go_wp2
              go_still_tail 9, (by kernel_rfl)
              change wpList _ _ _ _ _ wr.drew
              go_wp2_with fail
              refine (HC9.out _ (h.below hw).drew).mono ?_
              rintro e1 w2 ⟨rfl, hb2⟩
              replace hb2 : Below wr.heap.size wr w2 := ⟨hb2.os, hb2.tape, hb2.output, hb2.size, hb2.block⟩
              replace hrC := hrC.below hb2
              replace hrE := hrE.below hb2
              replace hx0 := keep_cell hb2 hx0
              replace hx1 := keep_cell hb2 hx1
              replace hw := keep_below hb2 hw
              clear hb2
              go_wp2
              go_quiet (fail)
              go_wp2
              go_roundw
              case rel => exact ⟨i + 1, by omega, .inr ⟨i, by omega, rfl, HM.out, HF'⟩, by go_num, HS', hrC, hrE, hx0, hx1, Below.drewN' hw _⟩
              case measure => simp [intOf]; omega
            · have HFM := Lib.hid hfm
              clear hfm
              go_wp2
              go_still_tail 9, (by kernel_rfl)
              change wpList _ _ _ _ _ wr.drew
              go_wp2_with fail
              refine (HC9.out _ (h.below hw).drew).mono ?_
              rintro e1 w2 ⟨rfl, hb2⟩
              replace hb2 : Below wr.heap.size wr w2 := ⟨hb2.os, hb2.tape, hb2.output, hb2.size, hb2.block⟩
              replace hrC := hrC.below hb2
              replace hrE := hrE.below hb2
              replace hx0 := keep_cell hb2 hx0
              replace hx1 := keep_cell hb2 hx1
              replace hw := keep_below hb2 hw
              obtain ⟨b9, o9, rfl, hc9⟩ := (zv.below hw).at_ (j := i) hiv
              obtain ⟨b8, o8, e8, hc8⟩ := (zv.below hw).at_ (j := f) (by omega)
              cases e8
              have i4 : (f : Int) < vs.length := by omega
              have g4 : (f : Int) ≥ 0 := by omega
              have g5 : decide ((f : Int) ≥ 0) = true := decide_eq_true g4
              clear hb2
              by_cases hv : nth vs f = nth vs i
              · have d1 : (nth vs f != nth vs i) = false := by rw [bne_eq_false_iff_eq]; exact hv
                have HS' : Hid (∀ a b, a < i + 1 → b < a → nth R a = (m : Int) → nth R b = (m : Int) → nth vs a = nth vs b) := fun a b ha hb h1 h2 => by
                  by_cases e : a = i
                  · subst e; rw [← hv]; exact (HF.out b hb h2).symm
                  · exact HS.out a b (by omega) hb h1 h2
                have HF' : Hid (∀ j, j < i + 1 → nth R j = (m : Int) → nth vs j = nth vs i) := fun j hj hjq => by
                  by_cases e : j = i
                  · rw [e]
                  · rw [← hv]; exact HF.out j (by omega) hjq
                clear HF HS hv
                generalize nth vs f = v8 at *
                go_wp2
                go_quiet (fail)
                go_wp2
                go_roundw
                case rel => exact ⟨i + 1, by omega, .inr ⟨i, by omega, rfl, HM.out, HF'⟩, by go_num, HS', hrC, hrE, hx0, hx1, Below.drewN' hw _⟩
                case measure => simp [intOf]; omega
              · have hr' : r = false := by rw [← HR.out]; exact knB_no (i := i) (k := f) (by rw [hRL.out]; exact hlt2) hf (by rw [HM.out, HFM.out]) (fun e => hv e.symm)
                subst hr'
                have d1 : (nth vs f != nth vs i) = true := by rw [bne_iff_ne]; exact hv
                clear HF HS hv
                generalize nth vs f = v8 at *
                generalize nth vs i = v9 at *
                go_wp2
                go_quiet (fail)
                go_wp2
                go_ret
                exact ⟨by simp, Below.drewN' hw _⟩
          · rw [decide_eq_false hmq] at HC9
            have HF' : Hid (∀ j, j < i + 1 → nth R j = (q : Int) → j < i) := fun j hj hjq => by
              by_cases e : j = i
              · subst e; rw [HM.out] at hjq; omega
              · omega
            go_wp2
            go_still_tail 9, (by kernel_rfl)
            change wpList _ _ _ _ _ wr.drew
            go_wp2_with fail
            refine (HC9.out _ (h.below hw).drew).mono ?_
            rintro e1 w2 ⟨rfl, hb2⟩
            replace hb2 : Below wr.heap.size wr w2 := ⟨hb2.os, hb2.tape, hb2.output, hb2.size, hb2.block⟩
            replace hrC := hrC.below hb2
            replace hrE := hrE.below hb2
            replace hx0 := keep_cell hb2 hx0
            replace hx1 := keep_cell hb2 hx1
            replace hw := keep_below hb2 hw
            clear hb2
            go_wp2
            go_roundw
            case rel =>
              refine ⟨i + 1, by omega, ?_, by go_num, fun a b ha hb h1 h2 => HS.out a b (HF'.out a ha h1) hb h1 h2, hrC, hrE, hx0, hx1, hw⟩
              rcases hfirst with ⟨h1, HF⟩ | ⟨f, hf, h1, hfm, HF⟩
              · exact .inl ⟨h1, fun j hj e => HF.out j (HF'.out j hj e) e⟩
              · exact .inr ⟨f, by omega, h1, hfm, fun j hj e => HF.out j (HF'.out j hj e) e⟩
            case measure => simp [intOf]; omega
        · have hie : i = E.length := by omega
          subst hie
          have HP' : Hid (∀ p, p < q + 1 → ∀ i j, i < E.length → j < i → nth R i = (p : Nat) → nth R j = (p : Nat) → nth vs i = nth vs j) := fun p hp => by
            by_cases e : p = q
            · subst e; exact HS.out
            · exact HP.out p (by omega)
          clear HS HP hfirst
          go_wp2
          go_roundw
          case rel => exact ⟨q + 1, by omega, by go_num, HP', hrC, hrE, hx0, hx1, hw⟩
          case measure => simp [intOf]; omega
    · have hqe : q = C.length := by omega
      subst hqe
      have hr' : r = true := by
        rw [← HR.out, knB_iff]
        intro i j hi hj he
        rw [hRL.out] at hi
        obtain ⟨_, m, _, _, hm, hmc, _⟩ := HEM.out i hi
        exact HP.out m hmc i j hi hj hm (by rw [← he]; exact hm)
      subst hr'
      clear HP
      go_wp2
      go_ret
      exact ⟨by simp, hw⟩
set_option maxHeartbeats 2000000 in
set_option maxRecDepth 100000 in
theorem specKnownAt_any (A B : Option Addr) (c e : Nat) (xs ys : List Int) (V : Option Addr) (cv : Nat) (vs : List Int) (w : World) (h : IntS w A xs) (k : IntS w B ys) (zv : IntS w V vs) (_hx : Bd xs) (_hy : Bd ys) (_bv : Bd vs) (hn : xs.length ≤ 1048576) (hm : ys.length ≤ 1048576) (lv : vs.length ≤ 1048576) :
    Calls Try.prog 24 #[.agg #[.slice A xs.length c, .slice B ys.length e], .slice V vs.length cv] w (fun e1 w' => e1 = .returned (.tuple #[.int .i64 (kaR xs ys vs), .bool (kaOk xs ys vs)]) ∧ Below w.heap.size w w') := by
  obtain ⟨r1, q1⟩ : ∃ r, (good xs ys && payB xs vs) = r := ⟨_, rfl⟩
  cases r1
  case false =>
    have hO : kaOk xs ys vs = false := by unfold kaOk ; simp [q1]
    have hV_kaR := kaR_no hO
    rw [hV_kaR]
    (try rw [hO])
    clear hO hV_kaR
    have HG1 := Lib.hid (fun W (h : IntS W A xs) (k : IntS W B ys) (zv : IntS W V vs) => l2Pays_any A B V c e cv xs ys vs W h k zv _hx _hy hn hm lv)
    rw [q1] at HG1
    clear q1 _hx _hy _bv
    go_enter Try.func24, Try.ntmps24
    go_wp2_with fail
    refine (HG1.out _ (h.alloc _) (k.alloc _) (zv.alloc _)).mono ?_
    rintro e1 w1 ⟨rfl, hb⟩
    have hx0 : w1.cell? ⟨w.heap.size, 0, none⟩ = some (.slice A xs.length c) := keep_cell hb (by simp)
    have hx1 : w1.cell? ⟨w.heap.size, 1, none⟩ = some (.slice B ys.length e) := keep_cell hb (by simp)
    have hw : Below w.heap.size w w1 := below_alloc (hb)
    clear hb
    go_wp2
    go_ret2
    exact ⟨rfl, hw⟩
  case true =>
    have hO : kaOk xs ys vs = true := by unfold kaOk ; simp [q1]
    have hV_kaR := kaR_yes hO
    rw [hV_kaR]
    (try rw [hO])
    clear hO hV_kaR
    have HG1 := Lib.hid (fun W (h : IntS W A xs) (k : IntS W B ys) (zv : IntS W V vs) => l2Pays_any A B V c e cv xs ys vs W h k zv _hx _hy hn hm lv)
    rw [q1] at HG1
    have HL := Lib.hid (fun (d : Nat) (h1 : d ≤ xs.length) (h2 : kaAt xs ys vs d = true) (h3 : ∀ j, j < d → kaAt xs ys vs j = false) => least_eq h1 h2 h3)
    have HT : Hid (kaAt xs ys vs xs.length = true) := kn_top (Bool.and_eq_true_iff.1 q1).1 vs
    have HS := Lib.hid (fun W (d : Nat) (h : IntS W A xs) (k : IntS W B ys) (zv : IntS W V vs) => l2Same_good (Bool.and_eq_true_iff.1 q1).1 A B V c e cv vs d W h k zv (pay_iff (Bool.and_eq_true_iff.1 q1).2).1)
    generalize kaAt xs ys vs = K at *
    generalize leastB (kaAt xs ys vs) xs.length = D at *
    have HN24 := Lib.hid (good_len (Bool.and_eq_true_iff.1 q1).1).2.1
    clear q1 _hx _hy _bv
    go_enter Try.func24, Try.ntmps24
    go_wp2_with fail
    refine (HG1.out _ (h.alloc _) (k.alloc _) (zv.alloc _)).mono ?_
    rintro e1 w1 ⟨rfl, hb⟩
    have hx0 : w1.cell? ⟨w.heap.size, 0, none⟩ = some (.slice A xs.length c) := keep_cell hb (by simp)
    have hx1 : w1.cell? ⟨w.heap.size, 1, none⟩ = some (.slice B ys.length e) := keep_cell hb (by simp)
    have hw : Below w.heap.size w w1 := below_alloc (hb)
    clear hb
    have hn24 := HN24.out
    clear HG1
    go_wp2
    go_loopw [6] (fun dv wr => ∃ d : Nat, d ≤ xs.length ∧ dv = .int .i64 d ∧ Hid (∀ j, j < d → K j = false) ∧ wr.cell? ⟨w.heap.size, 0, none⟩ = some (.slice A xs.length c) ∧ wr.cell? ⟨w.heap.size, 1, none⟩ = some (.slice B ys.length e) ∧ Below w.heap.size w wr) (fun dv _ => xs.length - (intOf dv).toNat)
    case atStart => exact ⟨0, by omega, rfl, fun j hj => by omega, hx0, hx1, hw⟩
    case round =>
      clear hx0 hx1 hw
      obtain ⟨d, hd, rfl, HA, hx0, hx1, hw⟩ := hrel
      have HSd := Lib.hid (fun W (h : IntS W A xs) (k : IntS W B ys) (zv : IntS W V vs) => HS.out W d h k zv)
      obtain ⟨r, hr⟩ : ∃ r, K d = r := ⟨_, rfl⟩
      rw [hr] at HSd
      cases r with
      | true =>
        have hD := HL.out d hd hr HA.out
        subst hD
        clear hr
        go_wp2_with fail
        refine (HSd.out _ (h.below hw) (k.below hw) (zv.below hw)).mono ?_
        rintro e1 w2 ⟨rfl, hb2⟩
        go_wp2
        go_ret2
        exact ⟨rfl, keep_below hb2 hw⟩
      | false =>
        have hlt : d < xs.length := by
          have hT := HT.out
          by_cases e : d = xs.length
          · rw [← e, hr] at hT; cases hT
          · omega
        have HA' : Hid (∀ j, j < d + 1 → K j = false) := fun j hj => by
          by_cases e : j = d
          · subst e; exact hr
          · exact HA.out j (by omega)
        clear hr
        go_wp2_with fail
        refine (HSd.out _ (h.below hw) (k.below hw) (zv.below hw)).mono ?_
        rintro e1 w2 ⟨rfl, hb2⟩
        go_wp2
        go_roundw
        case rel => exact ⟨d + 1, by omega, by go_num, HA', keep_cell hb2 hx0, keep_cell hb2 hx1, keep_below hb2 hw⟩
        case measure => simp [intOf]; omega
set_option maxHeartbeats 4000000 in
set_option maxRecDepth 100000 in
theorem implKnownAt_any (A B : Option Addr) (c e : Nat) (xs ys : List Int) (V : Option Addr) (cv : Nat) (vs : List Int) (w : World) (h : IntS w A xs) (k : IntS w B ys) (zv : IntS w V vs) (_hx : Bd xs) (_hy : Bd ys) (_bv : Bd vs) (hn : xs.length ≤ 1048576) (hm : ys.length ≤ 1048576) (lv : vs.length ≤ 1048576) :
    Calls Try.prog 25 #[.agg #[.slice A xs.length c, .slice B ys.length e], .slice V vs.length cv] w (fun e1 w' => e1 = .returned (.tuple #[.int .i64 (kaR xs ys vs), .bool (kaOk xs ys vs)]) ∧ Below w.heap.size w w') := by
  obtain ⟨r1, q1⟩ : ∃ r, (good xs ys) = r := ⟨_, rfl⟩
  cases r1
  case false =>
    have hO : kaOk xs ys vs = false := by unfold kaOk ; simp [q1]
    have hV_kaR := kaR_no hO
    rw [hV_kaR]
    (try rw [hO])
    clear hO hV_kaR
    have HG1 := Lib.hid (fun W (h : IntS W A xs) (k : IntS W B ys) => isTree_any A B c e xs ys W h k _hx _hy hn hm)
    rw [q1] at HG1
    clear q1 _hx _hy _bv
    go_enter Try.func25, Try.ntmps25
    go_wp2_with fail
    refine (HG1.out _ (h.alloc _) (k.alloc _)).mono ?_
    rintro e1 w1 ⟨rfl, hb⟩
    have hx0 : w1.cell? ⟨w.heap.size, 0, none⟩ = some (.slice A xs.length c) := keep_cell hb (by simp)
    have hx1 : w1.cell? ⟨w.heap.size, 1, none⟩ = some (.slice B ys.length e) := keep_cell hb (by simp)
    have hw : Below w.heap.size w w1 := below_alloc (hb)
    clear hb
    go_wp2
    go_ret2
    exact ⟨rfl, hw⟩
  case true =>
    obtain ⟨r2, q2⟩ : ∃ r, (payB xs vs) = r := ⟨_, rfl⟩
    cases r2
    case false =>
      have hO : kaOk xs ys vs = false := by unfold kaOk ; simp [q1, q2]
      have hV_kaR := kaR_no hO
      rw [hV_kaR]
      (try rw [hO])
      clear hO hV_kaR
      have HG1 := Lib.hid (fun W (h : IntS W A xs) (k : IntS W B ys) => isTree_any A B c e xs ys W h k _hx _hy hn hm)
      rw [q1] at HG1
      have HG2 := Lib.hid (fun W (h : IntS W A xs) (zv : IntS W V vs) => arePays_good q1 A B V c ys.length e cv vs W h zv lv)
      rw [q2] at HG2
      clear q1 q2 _hx _hy _bv
      go_enter Try.func25, Try.ntmps25
      go_wp2_with fail
      refine (HG1.out _ (h.alloc _) (k.alloc _)).mono ?_
      rintro e1 w1 ⟨rfl, hb⟩
      have hx0 : w1.cell? ⟨w.heap.size, 0, none⟩ = some (.slice A xs.length c) := keep_cell hb (by simp)
      have hx1 : w1.cell? ⟨w.heap.size, 1, none⟩ = some (.slice B ys.length e) := keep_cell hb (by simp)
      have hw : Below w.heap.size w w1 := below_alloc (hb)
      clear hb
      go_wp2_with fail
      refine (HG2.out _ (h.below hw) (zv.below hw)).mono ?_
      rintro e1 w2 ⟨rfl, hb⟩
      replace hx0 := keep_cell hb hx0
      replace hx1 := keep_cell hb hx1
      replace hw := keep_below hb hw
      clear hb
      go_wp2
      go_ret2
      exact ⟨rfl, hw⟩
    case true =>
      have hO : kaOk xs ys vs = true := by unfold kaOk ; simp [q1, q2]
      have hV_kaR := kaR_yes hO
      rw [hV_kaR]
      (try rw [hO])
      clear hO hV_kaR
      have HG1 := Lib.hid (fun W (h : IntS W A xs) (k : IntS W B ys) => isTree_any A B c e xs ys W h k _hx _hy hn hm)
      rw [q1] at HG1
      have HG2 := Lib.hid (fun W (h : IntS W A xs) (zv : IntS W V vs) => arePays_good q1 A B V c ys.length e cv vs W h zv lv)
      rw [q2] at HG2
      have HL := Lib.hid (fun (d : Nat) (h1 : d ≤ xs.length) (h2 : kaAt xs ys vs d = true) (h3 : ∀ j, j < d → kaAt xs ys vs j = false) => least_eq h1 h2 h3)
      have HT : Hid (kaAt xs ys vs xs.length = true) := kn_top q1 vs
      have HK : Hid (∀ d : Nat, kaAt xs ys vs d = knB (ovL xs (cutL xs ys d)) vs) := fun d => rfl
      have HCu := Lib.hid (fun W (d : Nat) (h : IntS W A xs) => cut_any q1 A B c e (d : Int) W h)
      have HOv := Lib.hid (fun W (N : Option Addr) (cn : Nat) (d : Nat) (h : IntS W A xs) (zn : IntS W N (cutL xs ys d)) => over_good q1 A B N c e cn (cutL xs ys d) W h zn (by have := cut_len xs ys d; have := good_len q1; omega))
      have HRL : Hid (∀ d : Nat, (ovL xs (cutL xs ys d)).length = vs.length) := fun d => by rw [ovL_len, (pay_iff q2).1]
      have hV1 : 1 ≤ vs.length := by rw [(pay_iff q2).1]; exact ends_pos q1
      have hV24 : vs.length ≤ 24 := by have := good_len q1; have := ends_len xs; rw [(pay_iff q2).1]; omega
      have hn24 := (good_len q1).2.1
      generalize kaAt xs ys vs = K at *
      generalize leastB (kaAt xs ys vs) xs.length = D at *
      clear q1 q2 _hx _hy _bv
      go_enter Try.func25, Try.ntmps25
      go_wp2_with fail
      refine (HG1.out _ (h.alloc _) (k.alloc _)).mono ?_
      rintro e1 w1 ⟨rfl, hb⟩
      have hx0 : w1.cell? ⟨w.heap.size, 0, none⟩ = some (.slice A xs.length c) := keep_cell hb (by simp)
      have hx1 : w1.cell? ⟨w.heap.size, 1, none⟩ = some (.slice B ys.length e) := keep_cell hb (by simp)
      have hw : Below w.heap.size w w1 := below_alloc (hb)
      clear hb
      go_wp2_with fail
      refine (HG2.out _ (h.below hw) (zv.below hw)).mono ?_
      rintro e1 w2 ⟨rfl, hb⟩
      replace hx0 := keep_cell hb hx0
      replace hx1 := keep_cell hb hx1
      replace hw := keep_below hb hw
      clear hb
      clear HG1 HG2
      go_wp2
      go_loopw [6] (fun dv wr => ∃ d : Nat, d ≤ xs.length ∧ dv = .int .i64 d ∧ Hid (∀ j, j < d → K j = false) ∧ wr.cell? ⟨w.heap.size, 0, none⟩ = some (.slice A xs.length c) ∧ wr.cell? ⟨w.heap.size, 1, none⟩ = some (.slice B ys.length e) ∧ Below w.heap.size w wr) (fun dv _ => xs.length - (intOf dv).toNat)
      case atStart => exact ⟨0, by omega, rfl, fun j hj => by omega, hx0, hx1, hw⟩
      case round =>
        clear hx0 hx1 hw
        obtain ⟨d, hd, rfl, HA, hx0, hx1, hw⟩ := hrel
        go_wp2
        refine wp_region_held_drew (S := fun w' => Below wr.heap.size wr w') (by kernel_rfl) ((Below.refl _ _)).drew (fun hHeld => ?_)
        replace hw := hw.drew
        refine wpAnyH_take (i := 0) (oi := ?ooi1) (v := ?vvi1) ?hii1 (by kernel_rfl) (by kernel_rfl) (by kernel_rfl) ?hqi1 (Or.inl ⟨?hgi1, ?hyi1⟩) (by assumption) ?resti1
        case hii1 => simp only [List.getElem?_toArray, List.getElem?_cons_zero]; rfl
        case hqi1 => exact fun _ _ _ h => h
        case hgi1 => rfl
        case hyi1 =>
          intro wq hSw
          replace hx0 := keep_cell hSw hx0
          replace hx1 := keep_cell hSw hx1
          go_simp
          (try with_reducible rfl)
        (try simp only [Act.put, List.setIfInBounds_toArray, List.set_cons_zero, List.set_cons_succ])
        refine wpAnyH_take (i := 1) (oi := ?ooi2) (v := ?vvi2) ?hii2 (by kernel_rfl) (by kernel_rfl) (by kernel_rfl) ?hqi2 (Or.inl ⟨?hgi2, ?hyi2⟩) (by assumption) ?resti2
        case hii2 => simp only [List.getElem?_toArray, List.getElem?_cons_zero, List.getElem?_cons_succ]; rfl
        case hqi2 => exact fun _ _ _ h => h
        case hgi2 => rfl
        case hyi2 =>
          intro wq hSw
          replace hx0 := keep_cell hSw hx0
          replace hx1 := keep_cell hSw hx1
          go_simp
          (try with_reducible rfl)
        (try simp only [Act.put, List.setIfInBounds_toArray, List.set_cons_zero, List.set_cons_succ])
        refine wpAnyH_take (i := 2) (oi := ?ooi3) (v := ?vvi3) ?hii3 (by kernel_rfl) (by kernel_rfl) (by kernel_rfl) ?hqi3 (Or.inl ⟨?hgi3, ?hyi3⟩) (by assumption) ?resti3
        case hii3 => simp only [List.getElem?_toArray, List.getElem?_cons_zero, List.getElem?_cons_succ]; rfl
        case hqi3 => exact fun _ _ _ h => h
        case hgi3 => rfl
        case hyi3 =>
          intro wq hSw
          replace hx0 := keep_cell hSw hx0
          replace hx1 := keep_cell hSw hx1
          go_simp
          (try with_reducible rfl)
        (try simp only [Act.put, List.setIfInBounds_toArray, List.set_cons_zero, List.set_cons_succ])
        refine wpAnyH_ready (rs := [3]) (by kernel_rfl) (by simp) ?_
        refine AllReadyH.cons (i := 3) (o := ?ooi4) ?hoi4 (fun K hK => ?hstepi4) AllReadyH.nil
        case hoi4 => simp only [List.getElem?_toArray, List.getElem?_cons_zero, List.getElem?_cons_succ]; rfl
        go_simp
        refine (HCu.out _ d (h.below hw)).mono ?_
        rintro e1 wz ⟨A8, c8, rfl, ho8, hb⟩
        have hI8 := ho8.ints
        clear ho8
        go_wp2_with fail
        refine hK.out _ _ (keep_below hb hHeld) (fun _ => ?_)
        clear hK K
        (try simp only [Act.put, List.setIfInBounds_toArray, List.set_cons_zero, List.set_cons_succ])
        refine wpAnyH_mono (S' := fun w' => Below wz.heap.size wz w') (fun _ h => keep_below h (keep_below hb hHeld)) _ _ _ _ ?_
        replace hw := keep_below hb hw
        replace hx0 := keep_cell hb hx0
        replace hx1 := keep_cell hb hx1
        clear hHeld hb
        have hHeld : Below wz.heap.size wz wz := (Below.refl _ _)
        refine wpAnyH_ready (rs := [4]) (by kernel_rfl) (by simp) ?_
        refine AllReadyH.cons (i := 4) (o := ?ooi5) ?hoi5 (fun K hK => ?hstepi5) AllReadyH.nil
        case hoi5 => simp only [List.getElem?_toArray, List.getElem?_cons_zero, List.getElem?_cons_succ]; rfl
        go_simp
        refine (HOv.out _ _ _ d (h.below hw) hI8).mono ?_
        rintro e1 wz ⟨A7, c7, rfl, ho7, hb⟩
        obtain ⟨gR, rfl, hgR, hrR⟩ := ho7.pos (by rw [HRL.out]; exact hV1)
        clear ho7 hgR hI8
        go_wp2_with fail
        refine hK.out _ _ (keep_below hb hHeld) (fun _ => ?_)
        clear hK K
        (try simp only [Act.put, List.setIfInBounds_toArray, List.set_cons_zero, List.set_cons_succ])
        refine wpAnyH_mono (S' := fun w' => Below wz.heap.size wz w') (fun _ h => keep_below h (keep_below hb hHeld)) _ _ _ _ ?_
        replace hw := keep_below hb hw
        replace hx0 := keep_cell hb hx0
        replace hx1 := keep_cell hb hx1
        clear hHeld hb
        have hHeld : Below wz.heap.size wz wz := (Below.refl _ _)
        refine wpAnyH_take (i := 5) (oi := ?ooi6) (v := ?vvi6) ?hii6 (by kernel_rfl) (by kernel_rfl) (by kernel_rfl) ?hqi6 (Or.inl ⟨?hgi6, ?hyi6⟩) (by assumption) ?resti6
        case hii6 => simp only [List.getElem?_toArray, List.getElem?_cons_zero, List.getElem?_cons_succ]; rfl
        case hqi6 => exact fun _ _ _ h => h
        case hgi6 => rfl
        case hyi6 =>
          intro wq hSw
          replace hx0 := keep_cell hSw hx0
          replace hx1 := keep_cell hSw hx1
          go_simp
          (try with_reducible rfl)
        (try simp only [Act.put, List.setIfInBounds_toArray, List.set_cons_zero, List.set_cons_succ])
        refine wpAnyH_take (i := 6) (oi := ?ooi7) (v := ?vvi7) ?hii7 (by kernel_rfl) (by kernel_rfl) (by kernel_rfl) ?hqi7 (Or.inl ⟨?hgi7, ?hyi7⟩) (by assumption) ?resti7
        case hii7 => simp only [List.getElem?_toArray, List.getElem?_cons_zero, List.getElem?_cons_succ]; rfl
        case hqi7 => exact fun _ _ _ h => h
        case hgi7 => rfl
        case hyi7 =>
          intro wq hSw
          replace hx0 := keep_cell hSw hx0
          replace hx1 := keep_cell hSw hx1
          go_simp
          (try with_reducible rfl)
        (try simp only [Act.put, List.setIfInBounds_toArray, List.set_cons_zero, List.set_cons_succ])
        clear hHeld
        refine wpAnyH_done (by kernel_rfl) ?_ _
        have HKd := Lib.hid (HK.out d)
        have hRl := HRL.out d
        generalize ovL xs (cutL xs ys d) = R at *
        have HRl := Lib.hid hRl
        clear hRl
        go_wp2
        go_loopw [8, 29] (fun rv iv wr => ∃ (i : Nat) (r : Bool), i ≤ vs.length ∧ iv = .int .i64 i ∧ rv = .bool r ∧ Hid (r = true ↔ ∀ a b, a < i → b < a → nth R a = nth R b → nth vs a = nth vs b) ∧ Row wr gR R ∧ wr.cell? ⟨w.heap.size, 0, none⟩ = some (.slice A xs.length c) ∧ wr.cell? ⟨w.heap.size, 1, none⟩ = some (.slice B ys.length e) ∧ Below w.heap.size w wr) (fun _ iv _ => vs.length - (intOf iv).toNat)
        case atStart => exact ⟨0, true, by omega, rfl, rfl, ⟨fun _ a b ha => by omega, fun _ => rfl⟩, hrR, hx0, hx1, hw⟩
        case round =>
          clear hrR hx0 hx1 hw
          obtain ⟨i, r, hi, rfl, rfl, HI, hrR, hx0, hx1, hw⟩ := hrel
          by_cases hlt : i < vs.length
          · have i1 : (i : Int) < vs.length := by omega
            have i2 : (i : Int) < R.length := by rw [HRl.out]; exact i1
            go_wp2
            go_loopw [8, 33] (fun rv kv wr => ∃ (q : Nat) (r : Bool), q ≤ i ∧ kv = .int .i64 q ∧ rv = .bool r ∧ Hid (r = true ↔ (∀ a b, a < i → b < a → nth R a = nth R b → nth vs a = nth vs b) ∧ ∀ b, b < q → nth R i = nth R b → nth vs i = nth vs b) ∧ Row wr gR R ∧ wr.cell? ⟨w.heap.size, 0, none⟩ = some (.slice A xs.length c) ∧ wr.cell? ⟨w.heap.size, 1, none⟩ = some (.slice B ys.length e) ∧ Below w.heap.size w wr) (fun _ kv _ => i - (intOf kv).toNat)
            case atStart => exact ⟨0, r, by omega, rfl, rfl, ⟨fun h => ⟨HI.out.1 h, fun b hb => by omega⟩, fun h => HI.out.2 h.1⟩, hrR, hx0, hx1, hw⟩
            case round =>
              clear hrR hx0 hx1 hw HI
              obtain ⟨q, r, hq, rfl, rfl, HI, hrR, hx0, hx1, hw⟩ := hrel
              by_cases hlt2 : q < i
              · have i3 : (q : Int) < vs.length := by omega
                have i4 : (q : Int) < R.length := by rw [HRl.out]; exact i3
                have hcI := hrR.cell (j := i) (by rw [HRl.out]; exact hlt)
                have hcQ := hrR.cell (j := q) (by rw [HRl.out]; omega)
                obtain ⟨b9, o9, rfl, hc9⟩ := (zv.below hw).at_ (j := i) hlt
                obtain ⟨b8, o8, e8, hc8⟩ := (zv.below hw).at_ (j := q) (by omega)
                cases e8
                have HN : ∀ s : Bool, (s = true ↔ (r = true ∧ (nth R i = nth R q → nth vs i = nth vs q))) → Hid (s = true ↔ (∀ a b, a < i → b < a → nth R a = nth R b → nth vs a = nth vs b) ∧ ∀ b, b < q + 1 → nth R i = nth R b → nth vs i = nth vs b) := fun s hs => by
                  show _ ↔ _
                  rw [hs, HI.out]
                  constructor
                  · rintro ⟨⟨h1, h2⟩, h3⟩
                    refine ⟨h1, fun b hb => ?_⟩
                    by_cases e : b = q
                    · subst e; exact h3
                    · exact h2 b (by omega)
                  · rintro ⟨h1, h2⟩; exact ⟨⟨h1, fun b hb => h2 b (by omega)⟩, h2 q (by omega)⟩
                clear HI
                cases r with
                | false =>
                  have HX := HN false (by simp)
                  clear HN
                  generalize nth R i = v1 at *
                  generalize nth R q = v2 at *
                  generalize nth vs i = v3 at *
                  generalize nth vs q = v4 at *
                  go_wp2
                  go_quiet (fail)
                  go_wp2
                  go_roundw
                  case rel => exact ⟨q + 1, _, by omega, by go_num, rfl, HX, hrR, hx0, hx1, Below.drewN' hw _⟩
                  case measure => simp [intOf]; omega
                | true =>
                  by_cases e1 : nth R i = nth R q
                  · have d1 : (nth R i != nth R q) = false := by rw [bne_eq_false_iff_eq]; exact e1
                    by_cases e2 : nth vs i = nth vs q
                    · have d2 : (nth vs i == nth vs q) = true := by rw [beq_iff_eq]; exact e2
                      have HX := HN true (by simp [e2])
                      clear HN e1 e2
                      generalize nth R i = v1 at *
                      generalize nth R q = v2 at *
                      generalize nth vs i = v3 at *
                      generalize nth vs q = v4 at *
                      go_wp2
                      go_quiet (fail)
                      go_wp2
                      go_roundw
                      case rel => exact ⟨q + 1, _, by omega, by go_num, rfl, ⟨fun _ => HX.out.1 trivial, fun _ => rfl⟩, hrR, hx0, hx1, Below.drewN' hw _⟩
                      case measure => simp [intOf]; omega
                    · have d2 : (nth vs i == nth vs q) = false := by rw [beq_eq_false_iff_ne]; exact e2
                      have d3 : decide (nth vs i = nth vs q) = false := decide_eq_false e2
                      have HX := HN false (by simp [e1, e2])
                      clear HN e1 e2
                      generalize nth R i = v1 at *
                      generalize nth R q = v2 at *
                      generalize nth vs i = v3 at *
                      generalize nth vs q = v4 at *
                      go_wp2
                      go_quiet (fail)
                      go_wp2
                      go_roundw
                      case rel => exact ⟨q + 1, _, by omega, by go_num, rfl, HX, hrR, hx0, hx1, Below.drewN' hw _⟩
                      case measure => simp [intOf]; omega
                  · have d1 : (nth R i != nth R q) = true := by rw [bne_iff_ne]; exact e1
                    have HX := HN true (by simp [e1])
                    clear HN e1
                    generalize nth R i = v1 at *
                    generalize nth R q = v2 at *
                    generalize nth vs i = v3 at *
                    generalize nth vs q = v4 at *
                    go_wp2
                    go_quiet (fail)
                    go_wp2
                    go_roundw
                    case rel => exact ⟨q + 1, _, by omega, by go_num, rfl, ⟨fun _ => HX.out.1 trivial, fun _ => rfl⟩, hrR, hx0, hx1, Below.drewN' hw _⟩
                    case measure => simp [intOf]; omega
              · have hqe : q = i := by omega
                subst hqe
                have HI' : Hid (r = true ↔ ∀ a b, a < q + 1 → b < a → nth R a = nth R b → nth vs a = nth vs b) := by
                  show _ ↔ _
                  rw [HI.out]
                  constructor
                  · rintro ⟨h1, h2⟩ a b ha hb
                    by_cases e : a = q
                    · subst e; exact h2 b hb
                    · exact h1 a b (by omega) hb
                  · intro h1; exact ⟨fun a b ha => h1 a b (by omega), fun b hb => h1 q b (by omega) hb⟩
                clear HI
                go_wp2
                go_roundw
                case rel => exact ⟨q + 1, r, by omega, by go_num, rfl, HI', hrR, hx0, hx1, hw⟩
                case measure => simp [intOf]; omega
          · have hie : i = vs.length := by omega
            subst hie
            have hr : K d = r := by
              rw [HKd.out, Bool.eq_iff_iff, HI.out, knB_iff, HRl.out]
            clear HI HKd HRl
            cases r with
            | true =>
              have hD := HL.out d hd hr HA.out
              subst hD
              clear hr
              go_wp2
              go_ret2
              exact ⟨rfl, hw⟩
            | false =>
              have hlt : d < xs.length := by
                have hT := HT.out
                by_cases e : d = xs.length
                · rw [← e, hr] at hT; cases hT
                · omega
              have HA' : Hid (∀ j, j < d + 1 → K j = false) := fun j hj => by
                by_cases e : j = d
                · subst e; exact hr
                · exact HA.out j (by omega)
              clear hr
              go_wp2
              go_roundw
              case rel => exact ⟨d + 1, by omega, by go_num, HA', hx0, hx1, hw⟩
              case measure => simp [intOf]; omega
end Go.Proofs.Ytombfbmcplefgaa
/- Contracts: the means of pays. -/
namespace Go.Proofs.Ytombfbmcplefgaa
open Go.ChangeShapes Go.WideShapes Go.ChangeAt Go.RowKit

def mnsP (xs ys ps : List Int) (x : Nat) : Int × Int := (lowX (nth (totL xs ys ps) x) (nth (sumsL xs ys) x), lowY (nth (totL xs ys ps) x) (nth (sumsL xs ys) x))
def mnsK (xs ys ps : List Int) (k : Nat) : List (Int × Int) := (List.range k).map (mnsP xs ys ps)
theorem mnsK_succ (xs ys ps : List Int) (k : Nat) : mnsK xs ys ps (k + 1) = mnsK xs ys ps k ++ [mnsP xs ys ps k] := by
  unfold mnsK; rw [List.range_succ, List.map_append]; rfl
theorem mnsK_len (xs ys ps : List Int) (k : Nat) : (mnsK xs ys ps k).length = k := by simp [mnsK]
noncomputable def mnsOk (xs ys ps : List Int) : Bool := good xs ys && payB xs ps
noncomputable def mnsR (xs ys ps : List Int) : List (Int × Int) := if mnsOk xs ys ps then mnsK xs ys ps xs.length else []
theorem mnsR_no {xs ys ps : List Int} (h : mnsOk xs ys ps = false) : mnsR xs ys ps = [] := by unfold mnsR; rw [h]; rfl
theorem mnsR_yes {xs ys ps : List Int} (h : mnsOk xs ys ps = true) : mnsR xs ys ps = mnsK xs ys ps xs.length := by unfold mnsR; rw [h]; rfl
theorem mnsR_len (xs ys ps : List Int) (hn : xs.length ≤ 1048576) : (mnsR xs ys ps).length ≤ 2000000 := by
  unfold mnsR; split
  · have := mnsK_len xs ys ps xs.length; omega
  · simp
set_option maxHeartbeats 4000000 in
set_option maxRecDepth 100000 in
theorem l2Means_good {xs ys : List Int} (hg : good xs ys = true) (A B P : Option Addr) (c e cp : Nat) (ps : List Int) (w : World) (h : IntS w A xs) (k : IntS w B ys) (zp : IntS w P ps) (hq : payB xs ps = true) :
    Calls Try.prog 131 #[.agg #[.slice A xs.length c, .slice B ys.length e], .slice P ps.length cp] w (RetP w (mnsK xs ys ps xs.length)) := by
  have hgl := good_len hg
  have hpp := pay_iff hq
  have hv : ∀ j, -((999 : Nat) : Int) ≤ nth ps j ∧ nth ps j ≤ ((999 : Nat) : Int) := fun j => by have := hpp.2 j; omega
  have HSu := Lib.hid (fun W (h : IntS W A xs) (k : IntS W B ys) => l2Sums_good hg A B c e W h k)
  have HTo := Lib.hid (fun W (h : IntS W A xs) (k : IntS W B ys) (zp : IntS W P ps) => l2Totals_any hg A B P c e cp ps W h k zp hpp.1 999 (by omega) hv)
  have hsb := Lib.hid (fun j => sums_bd hg j)
  have hs1 := Lib.hid (fun x (hx : x < xs.length) => sums_one hg hx)
  have htb := Lib.hid (fun j => tot_bd hg hv j)
  have HSL : Hid ((sumsL xs ys).length = xs.length) := sums_len hg
  have HTL : Hid ((totL xs ys ps).length = xs.length) := tot_len
  have HSL1 : Hid (1 ≤ (sumsL xs ys).length) := by have := HSL.out; show 1 ≤ _; omega
  have HTL1 : Hid (1 ≤ (totL xs ys ps).length) := by have := HTL.out; show 1 ≤ _; omega
  have HDf : Hid (∀ x, mnsP xs ys ps x = (lowX (nth (totL xs ys ps) x) (nth (sumsL xs ys) x), lowY (nth (totL xs ys ps) x) (nth (sumsL xs ys) x))) := fun x => rfl
  have HDL := Lib.hid (fun k => mnsK_len xs ys ps k)
  have HDS := Lib.hid (fun k => mnsK_succ xs ys ps k)
  have HD0 : Hid (mnsK xs ys ps 0 = []) := rfl
  have hn24 : xs.length ≤ 24 := hgl.2.1
  clear hgl hpp hv hq hg
  generalize mnsK xs ys ps = F at *
  generalize mnsP xs ys ps = D at *
  generalize sumsL xs ys = S at *
  generalize totL xs ys ps = TT at *
  (try generalize sprL xs.length ys (endsL xs) ps (endsL xs).length = SP at *)
  obtain ⟨i0, hi, hz0, hz1, hz2⟩ := info_parts info_A2
  go_enter Try.func131, Try.ntmps131
  go_upto_region 1 with (fail)
  have hw : Below w.heap.size w (w.alloc (.cells #[.slice A xs.length c, .slice B ys.length e] 28)) := by (repeat (first | with_reducible exact Below.refl _ _ | with_reducible assumption | with_reducible refine Below.alloc' ?_ ?_ _ | with_reducible refine Below.setCell' ?_ ?_ _ | with_reducible refine Below.drewN' ?_ _ | with_reducible refine Below.drew ?_ | with_reducible refine Below.transA ?_ (by assumption) ?_ | omega | (focus (simp; done)) | (focus (simp; omega))))
  have hx0 : (w.alloc (.cells #[.slice A xs.length c, .slice B ys.length e] 28)).cell? ⟨w.heap.size, 0, none⟩ = some (.slice A xs.length c) := by simp
  have hx1 : (w.alloc (.cells #[.slice A xs.length c, .slice B ys.length e] 28)).cell? ⟨w.heap.size, 1, none⟩ = some (.slice B ys.length e) := by simp
  have HW1 : Hid ((w.alloc (.cells #[.slice A xs.length c, .slice B ys.length e] 28)).heap.size = w.heap.size + 1) := by show _ = _; simp
  obtain ⟨wb, hwb⟩ : ∃ wb, wb = w.alloc (.cells #[.slice A xs.length c, .slice B ys.length e] 28) := ⟨_, rfl⟩
  rw [← hwb] at hw hx0 hx1 HW1 ⊢
  clear hwb
  go_cut [5, 6, 7] (fun s5 s6 s7 wx => ∃ gO gS gT cS cT : Nat, s5 = .slice (some ⟨gO, 0, none⟩) 0 0 ∧ s6 = .slice (some ⟨gS, 0, none⟩) S.length cS ∧ s7 = .slice (some ⟨gT, 0, none⟩) TT.length cT ∧ gO ≠ gS ∧ gO ≠ gT ∧ w.heap.size < gS ∧ w.heap.size < gT ∧ wx.ownsRow (w.heap.size + 1) 51 2 (.slice (some ⟨gO, 0, none⟩) 0 0) 0 [] ∧ Row wx gS S ∧ Row wx gT TT ∧ Below w.heap.size w wx)
  case first =>
    refine wp_region_held_drew (S := fun w' => Below wb.heap.size wb w') (by kernel_rfl) ((Below.refl _ _)).drew (fun hHeld => ?_)
    replace hw := hw.drew
    refine wpAnyH_take (i := 1) (oi := ?ool21) (v := ?vvl21) ?hil21 (by kernel_rfl) (by kernel_rfl) (by kernel_rfl) ?hql21 (Or.inl ⟨?hgl21, ?hyl21⟩) (by assumption) ?restl21
    case hil21 => simp only [List.getElem?_toArray, List.getElem?_cons_zero, List.getElem?_cons_succ]; rfl
    case hql21 => exact fun _ _ _ h => h
    case hgl21 => rfl
    case hyl21 =>
      intro wq hSw
      replace hx0 := keep_cell hSw hx0
      replace hx1 := keep_cell hSw hx1
      go_simp
      (try with_reducible rfl)
    (try simp only [Act.put, List.setIfInBounds_toArray, List.set_cons_zero, List.set_cons_succ])
    refine wpAnyH_take (i := 3) (oi := ?ool22) (v := ?vvl22) ?hil22 (by kernel_rfl) (by kernel_rfl) (by kernel_rfl) ?hql22 (Or.inl ⟨?hgl22, ?hyl22⟩) (by assumption) ?restl22
    case hil22 => simp only [List.getElem?_toArray, List.getElem?_cons_zero, List.getElem?_cons_succ]; rfl
    case hql22 => exact fun _ _ _ h => h
    case hgl22 => rfl
    case hyl22 =>
      intro wq hSw
      replace hx0 := keep_cell hSw hx0
      replace hx1 := keep_cell hSw hx1
      go_simp
      (try with_reducible rfl)
    (try simp only [Act.put, List.setIfInBounds_toArray, List.set_cons_zero, List.set_cons_succ])
    refine wpAnyH_take (i := 4) (oi := ?ool23) (v := ?vvl23) ?hil23 (by kernel_rfl) (by kernel_rfl) (by kernel_rfl) ?hql23 (Or.inl ⟨?hgl23, ?hyl23⟩) (by assumption) ?restl23
    case hil23 => simp only [List.getElem?_toArray, List.getElem?_cons_zero, List.getElem?_cons_succ]; rfl
    case hql23 => exact fun _ _ _ h => h
    case hgl23 => rfl
    case hyl23 =>
      intro wq hSw
      replace hx0 := keep_cell hSw hx0
      replace hx1 := keep_cell hSw hx1
      go_simp
      (try with_reducible rfl)
    (try simp only [Act.put, List.setIfInBounds_toArray, List.set_cons_zero, List.set_cons_succ])
    refine wpAnyH_ready (rs := [0, 2]) (by kernel_rfl) (by simp) ?_
    refine AllReadyH.cons (i := 0) (o := ?ool24) ?hol24 (fun K hK => ?hstepl24) ?morel24
    case hol24 => simp only [List.getElem?_toArray, List.getElem?_cons_zero]; rfl
    case hstepl24 =>
      go_simp
      refine hK.out _ _ (by (repeat (first | with_reducible exact Below.refl _ _ | with_reducible assumption | with_reducible refine Below.alloc' ?_ ?_ _ | with_reducible refine Below.setCell' ?_ ?_ _ | with_reducible refine Below.drewN' ?_ _ | with_reducible refine Below.drew ?_ | with_reducible refine Below.transA ?_ (by assumption) ?_ | omega | (focus (simp; done)) | (focus (simp; omega))))) (fun hHeld => ?_)
      clear hK K
      (try simp only [Act.put, List.setIfInBounds_toArray, List.set_cons_zero, List.set_cons_succ])
      refine wpAnyH_name hHeld (fun wa hb hwz => ?_)
      (try replace hown := own_below hown hb)
      (try replace hrS := hrS.below hb)
      (try replace hrT := hrT.below hb)
      (try replace hiP := hiP.below hb)
      have hz := hb.size
      have hown : wa.ownsRow (w.heap.size + 1) 51 2 (.slice (some ⟨wb.heap.size, 0, none⟩) 0 0) 0 [] := by rw [hwz]; exact (own_empty2 wb (w.heap.size + 1) wb.heap.size rfl (by have := hw.size; have := HW1.out; simp at *; omega)).drew
      have hlO := hown.lt wb.heap.size rfl
      refine wpAnyH_mono (S' := fun w' => Below wa.heap.size wa w') (fun _ h => keep_below h hb) _ _ _ _ ?_
      replace hw := keep_below_dr hb hw
      replace hx0 := keep_cell hb hx0
      replace hx1 := keep_cell hb hx1
      clear hHeld hb hwz
      have hHeld : Below wa.heap.size wa wa := (Below.refl _ _)
      refine wpAnyH_ready (rs := [2]) (by kernel_rfl) (by simp) ?_
      refine AllReadyH.cons (i := 2) (o := ?ool25) ?hol25 (fun K hK => ?hstepl25) AllReadyH.nil
      case hol25 => simp only [List.getElem?_toArray, List.getElem?_cons_zero, List.getElem?_cons_succ]; rfl
      go_simp
      refine (HSu.out _ (h.below hw) (k.below hw)).mono ?_
      rintro e1 wz ⟨As, cs, rfl, hos, hb⟩
      (try replace hown := own_below hown hb)
      (try replace hrS := hrS.below hb)
      (try replace hrT := hrT.below hb)
      (try replace hiP := hiP.below hb)
      have hz := hb.size
      obtain ⟨gS, rfl, hgS, hrS⟩ := hos.pos HSL1.out
      have hlS := hrS.lt
      clear hos
      go_wp2_with fail
      refine hK.out _ _ (keep_below hb hHeld) (fun _ => ?_)
      clear hK K
      (try simp only [Act.put, List.setIfInBounds_toArray, List.set_cons_zero, List.set_cons_succ])
      refine wpAnyH_mono (S' := fun w' => Below wz.heap.size wz w') (fun _ h => keep_below h (keep_below hb hHeld)) _ _ _ _ ?_
      replace hw := keep_below hb hw
      replace hx0 := keep_cell hb hx0
      replace hx1 := keep_cell hb hx1
      clear hHeld hb
      have hHeld : Below wz.heap.size wz wz := (Below.refl _ _)
      refine wpAnyH_ready (rs := [5]) (by kernel_rfl) (by simp) ?_
      refine AllReadyH.cons (i := 5) (o := ?ool26) ?hol26 (fun K hK => ?hstepl26) AllReadyH.nil
      case hol26 => simp only [List.getElem?_toArray, List.getElem?_cons_zero, List.getElem?_cons_succ]; rfl
      go_simp
      refine (HTo.out _ (h.below hw) (k.below hw) (zp.below hw)).mono ?_
      rintro e1 wz ⟨At, ct, rfl, hot, hb⟩
      (try replace hown := own_below hown hb)
      (try replace hrS := hrS.below hb)
      (try replace hrT := hrT.below hb)
      (try replace hiP := hiP.below hb)
      have hz := hb.size
      obtain ⟨gT, rfl, hgT, hrT⟩ := hot.pos HTL1.out
      have hlT := hrT.lt
      clear hot
      go_wp2_with fail
      refine hK.out _ _ (keep_below hb hHeld) (fun _ => ?_)
      clear hK K
      (try simp only [Act.put, List.setIfInBounds_toArray, List.set_cons_zero, List.set_cons_succ])
      refine wpAnyH_mono (S' := fun w' => Below wz.heap.size wz w') (fun _ h => keep_below h (keep_below hb hHeld)) _ _ _ _ ?_
      replace hw := keep_below hb hw
      replace hx0 := keep_cell hb hx0
      replace hx1 := keep_cell hb hx1
      clear hHeld hb
      have hHeld : Below wz.heap.size wz wz := (Below.refl _ _)
      refine wpAnyH_take (i := 6) (oi := ?ool27) (v := ?vvl27) ?hil27 (by kernel_rfl) (by kernel_rfl) (by kernel_rfl) ?hql27 (Or.inl ⟨?hgl27, ?hyl27⟩) (by assumption) ?restl27
      case hil27 => simp only [List.getElem?_toArray, List.getElem?_cons_zero, List.getElem?_cons_succ]; rfl
      case hql27 => exact fun _ _ _ h => h
      case hgl27 => rfl
      case hyl27 =>
        intro wq hSw
        replace hx0 := keep_cell hSw hx0
        replace hx1 := keep_cell hSw hx1
        go_simp
        (try with_reducible rfl)
      (try simp only [Act.put, List.setIfInBounds_toArray, List.set_cons_zero, List.set_cons_succ])
      refine wpAnyH_take (i := 7) (oi := ?ool28) (v := ?vvl28) ?hil28 (by kernel_rfl) (by kernel_rfl) (by kernel_rfl) ?hql28 (Or.inl ⟨?hgl28, ?hyl28⟩) (by assumption) ?restl28
      case hil28 => simp only [List.getElem?_toArray, List.getElem?_cons_zero, List.getElem?_cons_succ]; rfl
      case hql28 => exact fun _ _ _ h => h
      case hgl28 => rfl
      case hyl28 =>
        intro wq hSw
        replace hx0 := keep_cell hSw hx0
        replace hx1 := keep_cell hSw hx1
        go_simp
        (try with_reducible rfl)
      (try simp only [Act.put, List.setIfInBounds_toArray, List.set_cons_zero, List.set_cons_succ])
      refine wpAnyH_take (i := 8) (oi := ?ool29) (v := ?vvl29) ?hil29 (by kernel_rfl) (by kernel_rfl) (by kernel_rfl) ?hql29 (Or.inl ⟨?hgl29, ?hyl29⟩) (by assumption) ?restl29
      case hil29 => simp only [List.getElem?_toArray, List.getElem?_cons_zero, List.getElem?_cons_succ]; rfl
      case hql29 => exact fun _ _ _ h => h
      case hgl29 => rfl
      case hyl29 =>
        intro wq hSw
        replace hx0 := keep_cell hSw hx0
        replace hx1 := keep_cell hSw hx1
        go_simp
        (try with_reducible rfl)
      (try simp only [Act.put, List.setIfInBounds_toArray, List.set_cons_zero, List.set_cons_succ])
      clear hHeld
      refine wpAnyH_done (by kernel_rfl) ?_ _
      go_wp2_with fail
      go_meet
      go_split_ands
      have hW1 := HW1.out
      exact ⟨_, _, _, _, _, rfl, rfl, rfl, by simp at *; omega, by simp at *; omega, by simp at *; omega, by simp at *; omega, hown, hrS, hrT, hw⟩
    refine AllReadyH.cons (i := 2) (o := ?ool210) ?hol210 (fun K hK => ?hstepl210) ?morel210
    case hol210 => simp only [List.getElem?_toArray, List.getElem?_cons_zero, List.getElem?_cons_succ]; rfl
    case hstepl210 =>
      go_simp
      refine (HSu.out _ (h.below hw) (k.below hw)).mono ?_
      rintro e1 wz ⟨As, cs, rfl, hos, hb⟩
      (try replace hown := own_below hown hb)
      (try replace hrS := hrS.below hb)
      (try replace hrT := hrT.below hb)
      (try replace hiP := hiP.below hb)
      have hz := hb.size
      obtain ⟨gS, rfl, hgS, hrS⟩ := hos.pos HSL1.out
      have hlS := hrS.lt
      clear hos
      go_wp2_with fail
      refine hK.out _ _ (keep_below hb hHeld) (fun _ => ?_)
      clear hK K
      (try simp only [Act.put, List.setIfInBounds_toArray, List.set_cons_zero, List.set_cons_succ])
      refine wpAnyH_mono (S' := fun w' => Below wz.heap.size wz w') (fun _ h => keep_below h (keep_below hb hHeld)) _ _ _ _ ?_
      replace hw := keep_below hb hw
      replace hx0 := keep_cell hb hx0
      replace hx1 := keep_cell hb hx1
      clear hHeld hb
      have hHeld : Below wz.heap.size wz wz := (Below.refl _ _)
      refine wpAnyH_ready (rs := [0, 5]) (by kernel_rfl) (by simp) ?_
      refine AllReadyH.cons (i := 0) (o := ?ool211) ?hol211 (fun K hK => ?hstepl211) ?morel211
      case hol211 => simp only [List.getElem?_toArray, List.getElem?_cons_zero]; rfl
      case hstepl211 =>
        go_simp
        refine hK.out _ _ (by (repeat (first | with_reducible exact Below.refl _ _ | with_reducible assumption | with_reducible refine Below.alloc' ?_ ?_ _ | with_reducible refine Below.setCell' ?_ ?_ _ | with_reducible refine Below.drewN' ?_ _ | with_reducible refine Below.drew ?_ | with_reducible refine Below.transA ?_ (by assumption) ?_ | omega | (focus (simp; done)) | (focus (simp; omega))))) (fun hHeld => ?_)
        clear hK K
        (try simp only [Act.put, List.setIfInBounds_toArray, List.set_cons_zero, List.set_cons_succ])
        refine wpAnyH_name hHeld (fun wa hb hwz => ?_)
        (try replace hown := own_below hown hb)
        (try replace hrS := hrS.below hb)
        (try replace hrT := hrT.below hb)
        (try replace hiP := hiP.below hb)
        have hz := hb.size
        have hown : wa.ownsRow (w.heap.size + 1) 51 2 (.slice (some ⟨wz.heap.size, 0, none⟩) 0 0) 0 [] := by rw [hwz]; exact own_empty2 wz (w.heap.size + 1) wz.heap.size rfl (by have := hw.size; have := HW1.out; simp at *; omega)
        have hlO := hown.lt wz.heap.size rfl
        refine wpAnyH_mono (S' := fun w' => Below wa.heap.size wa w') (fun _ h => keep_below h hb) _ _ _ _ ?_
        replace hw := keep_below hb hw
        replace hx0 := keep_cell hb hx0
        replace hx1 := keep_cell hb hx1
        clear hHeld hb hwz
        have hHeld : Below wa.heap.size wa wa := (Below.refl _ _)
        refine wpAnyH_ready (rs := [5]) (by kernel_rfl) (by simp) ?_
        refine AllReadyH.cons (i := 5) (o := ?ool212) ?hol212 (fun K hK => ?hstepl212) AllReadyH.nil
        case hol212 => simp only [List.getElem?_toArray, List.getElem?_cons_zero, List.getElem?_cons_succ]; rfl
        go_simp
        refine (HTo.out _ (h.below hw) (k.below hw) (zp.below hw)).mono ?_
        rintro e1 wz ⟨At, ct, rfl, hot, hb⟩
        (try replace hown := own_below hown hb)
        (try replace hrS := hrS.below hb)
        (try replace hrT := hrT.below hb)
        (try replace hiP := hiP.below hb)
        have hz := hb.size
        obtain ⟨gT, rfl, hgT, hrT⟩ := hot.pos HTL1.out
        have hlT := hrT.lt
        clear hot
        go_wp2_with fail
        refine hK.out _ _ (keep_below hb hHeld) (fun _ => ?_)
        clear hK K
        (try simp only [Act.put, List.setIfInBounds_toArray, List.set_cons_zero, List.set_cons_succ])
        refine wpAnyH_mono (S' := fun w' => Below wz.heap.size wz w') (fun _ h => keep_below h (keep_below hb hHeld)) _ _ _ _ ?_
        replace hw := keep_below hb hw
        replace hx0 := keep_cell hb hx0
        replace hx1 := keep_cell hb hx1
        clear hHeld hb
        have hHeld : Below wz.heap.size wz wz := (Below.refl _ _)
        refine wpAnyH_take (i := 6) (oi := ?ool213) (v := ?vvl213) ?hil213 (by kernel_rfl) (by kernel_rfl) (by kernel_rfl) ?hql213 (Or.inl ⟨?hgl213, ?hyl213⟩) (by assumption) ?restl213
        case hil213 => simp only [List.getElem?_toArray, List.getElem?_cons_zero, List.getElem?_cons_succ]; rfl
        case hql213 => exact fun _ _ _ h => h
        case hgl213 => rfl
        case hyl213 =>
          intro wq hSw
          replace hx0 := keep_cell hSw hx0
          replace hx1 := keep_cell hSw hx1
          go_simp
          (try with_reducible rfl)
        (try simp only [Act.put, List.setIfInBounds_toArray, List.set_cons_zero, List.set_cons_succ])
        refine wpAnyH_take (i := 7) (oi := ?ool214) (v := ?vvl214) ?hil214 (by kernel_rfl) (by kernel_rfl) (by kernel_rfl) ?hql214 (Or.inl ⟨?hgl214, ?hyl214⟩) (by assumption) ?restl214
        case hil214 => simp only [List.getElem?_toArray, List.getElem?_cons_zero, List.getElem?_cons_succ]; rfl
        case hql214 => exact fun _ _ _ h => h
        case hgl214 => rfl
        case hyl214 =>
          intro wq hSw
          replace hx0 := keep_cell hSw hx0
          replace hx1 := keep_cell hSw hx1
          go_simp
          (try with_reducible rfl)
        (try simp only [Act.put, List.setIfInBounds_toArray, List.set_cons_zero, List.set_cons_succ])
        refine wpAnyH_take (i := 8) (oi := ?ool215) (v := ?vvl215) ?hil215 (by kernel_rfl) (by kernel_rfl) (by kernel_rfl) ?hql215 (Or.inl ⟨?hgl215, ?hyl215⟩) (by assumption) ?restl215
        case hil215 => simp only [List.getElem?_toArray, List.getElem?_cons_zero, List.getElem?_cons_succ]; rfl
        case hql215 => exact fun _ _ _ h => h
        case hgl215 => rfl
        case hyl215 =>
          intro wq hSw
          replace hx0 := keep_cell hSw hx0
          replace hx1 := keep_cell hSw hx1
          go_simp
          (try with_reducible rfl)
        (try simp only [Act.put, List.setIfInBounds_toArray, List.set_cons_zero, List.set_cons_succ])
        clear hHeld
        refine wpAnyH_done (by kernel_rfl) ?_ _
        go_wp2_with fail
        go_meet
        go_split_ands
        have hW1 := HW1.out
        exact ⟨_, _, _, _, _, rfl, rfl, rfl, by simp at *; omega, by simp at *; omega, by simp at *; omega, by simp at *; omega, hown, hrS, hrT, hw⟩
      refine AllReadyH.cons (i := 5) (o := ?ool216) ?hol216 (fun K hK => ?hstepl216) ?morel216
      case hol216 => simp only [List.getElem?_toArray, List.getElem?_cons_zero, List.getElem?_cons_succ]; rfl
      case hstepl216 =>
        go_simp
        refine (HTo.out _ (h.below hw) (k.below hw) (zp.below hw)).mono ?_
        rintro e1 wz ⟨At, ct, rfl, hot, hb⟩
        (try replace hown := own_below hown hb)
        (try replace hrS := hrS.below hb)
        (try replace hrT := hrT.below hb)
        (try replace hiP := hiP.below hb)
        have hz := hb.size
        obtain ⟨gT, rfl, hgT, hrT⟩ := hot.pos HTL1.out
        have hlT := hrT.lt
        clear hot
        go_wp2_with fail
        refine hK.out _ _ (keep_below hb hHeld) (fun _ => ?_)
        clear hK K
        (try simp only [Act.put, List.setIfInBounds_toArray, List.set_cons_zero, List.set_cons_succ])
        refine wpAnyH_mono (S' := fun w' => Below wz.heap.size wz w') (fun _ h => keep_below h (keep_below hb hHeld)) _ _ _ _ ?_
        replace hw := keep_below hb hw
        replace hx0 := keep_cell hb hx0
        replace hx1 := keep_cell hb hx1
        clear hHeld hb
        have hHeld : Below wz.heap.size wz wz := (Below.refl _ _)
        refine wpAnyH_ready (rs := [0]) (by kernel_rfl) (by simp) ?_
        refine AllReadyH.cons (i := 0) (o := ?ool217) ?hol217 (fun K hK => ?hstepl217) AllReadyH.nil
        case hol217 => simp only [List.getElem?_toArray, List.getElem?_cons_zero]; rfl
        go_simp
        refine hK.out _ _ (by (repeat (first | with_reducible exact Below.refl _ _ | with_reducible assumption | with_reducible refine Below.alloc' ?_ ?_ _ | with_reducible refine Below.setCell' ?_ ?_ _ | with_reducible refine Below.drewN' ?_ _ | with_reducible refine Below.drew ?_ | with_reducible refine Below.transA ?_ (by assumption) ?_ | omega | (focus (simp; done)) | (focus (simp; omega))))) (fun hHeld => ?_)
        clear hK K
        (try simp only [Act.put, List.setIfInBounds_toArray, List.set_cons_zero, List.set_cons_succ])
        refine wpAnyH_name hHeld (fun wa hb hwz => ?_)
        (try replace hown := own_below hown hb)
        (try replace hrS := hrS.below hb)
        (try replace hrT := hrT.below hb)
        (try replace hiP := hiP.below hb)
        have hz := hb.size
        have hown : wa.ownsRow (w.heap.size + 1) 51 2 (.slice (some ⟨wz.heap.size, 0, none⟩) 0 0) 0 [] := by rw [hwz]; exact own_empty2 wz (w.heap.size + 1) wz.heap.size rfl (by have := hw.size; have := HW1.out; simp at *; omega)
        have hlO := hown.lt wz.heap.size rfl
        refine wpAnyH_mono (S' := fun w' => Below wa.heap.size wa w') (fun _ h => keep_below h hb) _ _ _ _ ?_
        replace hw := keep_below hb hw
        replace hx0 := keep_cell hb hx0
        replace hx1 := keep_cell hb hx1
        clear hHeld hb hwz
        have hHeld : Below wa.heap.size wa wa := (Below.refl _ _)
        refine wpAnyH_take (i := 6) (oi := ?ool218) (v := ?vvl218) ?hil218 (by kernel_rfl) (by kernel_rfl) (by kernel_rfl) ?hql218 (Or.inl ⟨?hgl218, ?hyl218⟩) (by assumption) ?restl218
        case hil218 => simp only [List.getElem?_toArray, List.getElem?_cons_zero, List.getElem?_cons_succ]; rfl
        case hql218 => exact fun _ _ _ h => h
        case hgl218 => rfl
        case hyl218 =>
          intro wq hSw
          replace hx0 := keep_cell hSw hx0
          replace hx1 := keep_cell hSw hx1
          go_simp
          (try with_reducible rfl)
        (try simp only [Act.put, List.setIfInBounds_toArray, List.set_cons_zero, List.set_cons_succ])
        refine wpAnyH_take (i := 7) (oi := ?ool219) (v := ?vvl219) ?hil219 (by kernel_rfl) (by kernel_rfl) (by kernel_rfl) ?hql219 (Or.inl ⟨?hgl219, ?hyl219⟩) (by assumption) ?restl219
        case hil219 => simp only [List.getElem?_toArray, List.getElem?_cons_zero, List.getElem?_cons_succ]; rfl
        case hql219 => exact fun _ _ _ h => h
        case hgl219 => rfl
        case hyl219 =>
          intro wq hSw
          replace hx0 := keep_cell hSw hx0
          replace hx1 := keep_cell hSw hx1
          go_simp
          (try with_reducible rfl)
        (try simp only [Act.put, List.setIfInBounds_toArray, List.set_cons_zero, List.set_cons_succ])
        refine wpAnyH_take (i := 8) (oi := ?ool220) (v := ?vvl220) ?hil220 (by kernel_rfl) (by kernel_rfl) (by kernel_rfl) ?hql220 (Or.inl ⟨?hgl220, ?hyl220⟩) (by assumption) ?restl220
        case hil220 => simp only [List.getElem?_toArray, List.getElem?_cons_zero, List.getElem?_cons_succ]; rfl
        case hql220 => exact fun _ _ _ h => h
        case hgl220 => rfl
        case hyl220 =>
          intro wq hSw
          replace hx0 := keep_cell hSw hx0
          replace hx1 := keep_cell hSw hx1
          go_simp
          (try with_reducible rfl)
        (try simp only [Act.put, List.setIfInBounds_toArray, List.set_cons_zero, List.set_cons_succ])
        clear hHeld
        refine wpAnyH_done (by kernel_rfl) ?_ _
        go_wp2_with fail
        go_meet
        go_split_ands
        have hW1 := HW1.out
        exact ⟨_, _, _, _, _, rfl, rfl, rfl, by simp at *; omega, by simp at *; omega, by simp at *; omega, by simp at *; omega, hown, hrS, hrT, hw⟩
      exact AllReadyH.nil
    exact AllReadyH.nil
  case rest =>
    obtain ⟨gO, gS, gT, cS, cT, rfl, rfl, rfl, hOS, hOT, _, _, hown, hrS, hrT, hw⟩ := hcut
    clear HSu HTo HSL1 HTL1 hx0 hx1 HW1
    go_wp2
    go_loopw [5, 8] (fun v i wr => ∃ j : Nat, j ≤ xs.length ∧ i = .int .i64 j ∧ wr.ownsRow (w.heap.size + 1) 51 2 v j (i64p (F j)) ∧ v.ownBlock ≠ some gS ∧ v.ownBlock ≠ some gT ∧ Row wr gS S ∧ Row wr gT TT ∧ Below w.heap.size w wr) (fun _ i _ => xs.length - (intOf i).toNat)
    case atStart => exact ⟨0, by omega, rfl, by rw [HD0.out]; exact hown, by simpa [Value.ownBlock] using hOS, by simpa [Value.ownBlock] using hOT, hrS, hrT, hw⟩
    case round =>
      clear hown hrS hrT hw hOS hOT
      obtain ⟨j, hj, rfl, hown, hneS, hneT, hrS, hrT, hw⟩ := hrel
      by_cases hlt : j < xs.length
      · have hcS := hrS.cell (j := j) (by rw [HSL.out]; exact hlt)
        have hcT := hrT.cell (j := j) (by rw [HTL.out]; exact hlt)
        have i1 : (j : Int) < S.length := by rw [HSL.out]; omega
        have i2 : (j : Int) < TT.length := by rw [HTL.out]; omega
        have b1 := hsb.out j
        have b2 := hs1.out j hlt
        have b3 := htb.out j
        have hds := HDS.out j
        rw [HDf.out j] at hds
        obtain ⟨s, hs⟩ : ∃ s, nth S j = s := ⟨_, rfl⟩
        obtain ⟨u, hu⟩ : ∃ u, nth TT j = u := ⟨_, rfl⟩
        rw [hs] at hcS b1 b2 hds
        rw [hu] at hcT b3 hds
        clear hs hu
        have hds2 : i64p (F (j + 1)) = i64p (F j) ++ [Value.int .i64 (lowX u s), Value.int .i64 (lowY u s)] := by rw [hds]; exact i64p_app _ _ _
        have HPX := Lib.hid hds2
        have HC := fun W => l2Cut_any u s W (by omega) (by omega) (by omega)
        skip
        replace HC := Lib.hid HC
        clear hds hds2
        generalize F j = FX at *
        generalize lowX u s = a9 at *
        generalize lowY u s = b9 at *
        go_wp2
        go_region_held3 (fun w' => w'.cell? ⟨gT, j, none⟩ = some (.int .i64 u) ∧ w'.cell? ⟨gS, j, none⟩ = some (.int .i64 s))
          (first | (exact ⟨hcT, hcS⟩) | (go_split_ands; exact ⟨keep_cell hb2 hcT, keep_cell hb2 hcS⟩) | (go_split_ands; exact ⟨by rw [World.cell?_alloc_lt _ _ _ hrT.lt]; exact keep_cell hb2 hcT, by rw [World.cell?_alloc_lt _ _ _ hrS.lt]; exact keep_cell hb2 hcS⟩) | (go_split_ands; exact ⟨grown_cell hgrow (by rw [World.cell?_alloc_lt _ _ _ hrT.lt]; exact keep_cell hb2 hcT) (fun e => hneT (by exact e)), grown_cell hgrow (by rw [World.cell?_alloc_lt _ _ _ hrS.lt]; exact keep_cell hb2 hcS) (fun e => hneS (by exact e))⟩))
          ((first | (go_at_call 116; refine (HC.out _).mono ?_; rintro e1 w2 ⟨rfl, hb2⟩; replace hb2 : Below wr.heap.size wr w2 := ⟨hb2.os, hb2.tape, hb2.output, hb2.size, hb2.block⟩; replace hown := own_below hown hb2; replace hrS := hrS.below hb2; replace hrT := hrT.below hb2; replace hw := keep_below hb2 hw; have hwz := hw.size) | ((refine step_append_elder _ (by rfl) _ _ 44 (by rfl) (w.heap.size + 1) 51 i0 (.agg #[.int .i64 0, .int .i64 0]) 2 16 Try.underlying44 hi hz0 hz1 hz2 rfl (by decide) _ _ _ (by rfl) (hown.alloc _) ⟨w2.heap.size, 0, none⟩ 1 1 [.int .i64 (a9), .int .i64 (b9)] (by rfl) rfl (cells2_new _ _ _ _) (by simp [Value.oneCell']) (by unfold maxLen; omega) (by omega) (by simp; omega) ?_; intro v' w1 hown1 hgrow hat hel))))
        have hrS1 := (hrS.alloc _).grown hgrow (fun h => hneS (by exact h.symm))
        have hrT1 := (hrT.alloc _).grown hgrow (fun h => hneT (by exact h.symm))
        have hlS := hrS.lt
        have hlT := hrT.lt
        have hne1 : v'.ownBlock ≠ some gS := by
          rcases hat with e | e
          · rw [e]; exact hneS
          · rw [e]; intro h'; injection h' with h'; simp at h' hlS; omega
        have hne2 : v'.ownBlock ≠ some gT := by
          rcases hat with e | e
          · rw [e]; exact hneT
          · rw [e]; intro h'; injection h' with h'; simp at h' hlT; omega
        have hb3 : Below w.heap.size w w1 := Below.grown (hw.alloc hw.size _) hgrow (by have := hw.size; simp at *; omega) (fun g hg => by have := (hown.lt g hg).1; omega)
        rw [← HPX.out] at hown1
        clear hown hgrow hw HPX hat hrS hrT hneS hneT
        go_wp2
        go_roundw
        case rel => exact ⟨j + 1, by omega, by go_num, hown1, hne1, hne2, hrS1, hrT1, hb3⟩
        case measure => simp only [intOf]; omega
      · have hkn : j = xs.length := by omega
        rw [hkn] at hown
        obtain ⟨A', c', rfl, hO⟩ := own_form2 hown
        have hll := Lib.hid (HDL.out xs.length)
        have i3 : ¬ ((j : Int) < S.length) := by rw [HSL.out]; omega
        have i4 : ¬ ((j : Int) < TT.length) := by rw [HTL.out]; omega
        clear hkn hown HDL HDS hrS hrT hneS hneT
        go_wp2
        go_ret
        exact ⟨A', c', rfl, hO.mono (by omega), hw⟩
set_option maxHeartbeats 4000000 in
set_option maxRecDepth 100000 in
theorem means_good {xs ys : List Int} (hg : good xs ys = true) (A B P : Option Addr) (c e cp : Nat) (ps : List Int) (w : World) (h : IntS w A xs) (k : IntS w B ys) (zp : IntS w P ps) (hq : payB xs ps = true) :
    Calls Try.prog 130 #[.agg #[.slice A xs.length c, .slice B ys.length e], .slice P ps.length cp] w (RetP w (mnsK xs ys ps xs.length)) := by
  have hgl := good_len hg
  have hpp := pay_iff hq
  have hv : ∀ j, -((999 : Nat) : Int) ≤ nth ps j ∧ nth ps j ≤ ((999 : Nat) : Int) := fun j => by have := hpp.2 j; omega
  have HSu := Lib.hid (fun W (h : IntS W A xs) (k : IntS W B ys) => sums_good hg A B c e W h k)
  have HSp := Lib.hid (fun W (h : IntS W A xs) (k : IntS W B ys) (zp : IntS W P ps) => spread_any hg A B P c e cp ps W h k zp hpp.1 999 (by omega) hv)
  have HGa := Lib.hid (fun W (Ap : Option Addr) (cq : Nat) (h : IntS W A xs) (k : IntS W Ap (sprL xs.length ys (endsL xs) ps (endsL xs).length)) => gath_good hg A B Ap c e cq ps W h 999 (by omega) hv k)
  have hsb := Lib.hid (fun j => sums_bd hg j)
  have hs1 := Lib.hid (fun x (hx : x < xs.length) => sums_one hg hx)
  have htb := Lib.hid (fun j => tot_bd hg hv j)
  have HSL : Hid ((sumsL xs ys).length = xs.length) := sums_len hg
  have HTL : Hid ((totL xs ys ps).length = xs.length) := tot_len
  have HSL1 : Hid (1 ≤ (sumsL xs ys).length) := by have := HSL.out; show 1 ≤ _; omega
  have HTL1 : Hid (1 ≤ (totL xs ys ps).length) := by have := HTL.out; show 1 ≤ _; omega
  have HDf : Hid (∀ x, mnsP xs ys ps x = (lowX (nth (totL xs ys ps) x) (nth (sumsL xs ys) x), lowY (nth (totL xs ys ps) x) (nth (sumsL xs ys) x))) := fun x => rfl
  have HDL := Lib.hid (fun k => mnsK_len xs ys ps k)
  have HDS := Lib.hid (fun k => mnsK_succ xs ys ps k)
  have HD0 : Hid (mnsK xs ys ps 0 = []) := rfl
  have hn24 : xs.length ≤ 24 := hgl.2.1
  clear hgl hpp hv hq hg
  generalize mnsK xs ys ps = F at *
  generalize mnsP xs ys ps = D at *
  generalize sumsL xs ys = S at *
  generalize totL xs ys ps = TT at *
  (try generalize sprL xs.length ys (endsL xs) ps (endsL xs).length = SP at *)
  obtain ⟨i0, hi, hz0, hz1, hz2⟩ := info_parts info_A2
  go_enter Try.func130, Try.ntmps130
  go_upto_region 1 with (fail)
  have hw : Below w.heap.size w (w.alloc (.cells #[.slice A xs.length c, .slice B ys.length e] 28)) := by (repeat (first | with_reducible exact Below.refl _ _ | with_reducible assumption | with_reducible refine Below.alloc' ?_ ?_ _ | with_reducible refine Below.setCell' ?_ ?_ _ | with_reducible refine Below.drewN' ?_ _ | with_reducible refine Below.drew ?_ | with_reducible refine Below.transA ?_ (by assumption) ?_ | omega | (focus (simp; done)) | (focus (simp; omega))))
  have hx0 : (w.alloc (.cells #[.slice A xs.length c, .slice B ys.length e] 28)).cell? ⟨w.heap.size, 0, none⟩ = some (.slice A xs.length c) := by simp
  have hx1 : (w.alloc (.cells #[.slice A xs.length c, .slice B ys.length e] 28)).cell? ⟨w.heap.size, 1, none⟩ = some (.slice B ys.length e) := by simp
  have HW1 : Hid ((w.alloc (.cells #[.slice A xs.length c, .slice B ys.length e] 28)).heap.size = w.heap.size + 1) := by show _ = _; simp
  obtain ⟨wb, hwb⟩ : ∃ wb, wb = w.alloc (.cells #[.slice A xs.length c, .slice B ys.length e] 28) := ⟨_, rfl⟩
  rw [← hwb] at hw hx0 hx1 HW1 ⊢
  clear hwb
  go_cut [5, 6, 7] (fun s5 s6 s7 wx => ∃ gO gS gT cS cT : Nat, s5 = .slice (some ⟨gO, 0, none⟩) 0 0 ∧ s6 = .slice (some ⟨gT, 0, none⟩) TT.length cT ∧ s7 = .slice (some ⟨gS, 0, none⟩) S.length cS ∧ gO ≠ gS ∧ gO ≠ gT ∧ w.heap.size < gS ∧ w.heap.size < gT ∧ wx.ownsRow (w.heap.size + 1) 51 2 (.slice (some ⟨gO, 0, none⟩) 0 0) 0 [] ∧ Row wx gS S ∧ Row wx gT TT ∧ Below w.heap.size w wx)
  case first =>
    refine wp_region_held_drew (S := fun w' => Below wb.heap.size wb w') (by kernel_rfl) ((Below.refl _ _)).drew (fun hHeld => ?_)
    replace hw := hw.drew
    refine wpAnyH_take (i := 1) (oi := ?oome1) (v := ?vvme1) ?hime1 (by kernel_rfl) (by kernel_rfl) (by kernel_rfl) ?hqme1 (Or.inl ⟨?hgme1, ?hyme1⟩) (by assumption) ?restme1
    case hime1 => simp only [List.getElem?_toArray, List.getElem?_cons_zero, List.getElem?_cons_succ]; rfl
    case hqme1 => exact fun _ _ _ h => h
    case hgme1 => rfl
    case hyme1 =>
      intro wq hSw
      replace hx0 := keep_cell hSw hx0
      replace hx1 := keep_cell hSw hx1
      go_simp
      (try with_reducible rfl)
    (try simp only [Act.put, List.setIfInBounds_toArray, List.set_cons_zero, List.set_cons_succ])
    refine wpAnyH_take (i := 2) (oi := ?oome2) (v := ?vvme2) ?hime2 (by kernel_rfl) (by kernel_rfl) (by kernel_rfl) ?hqme2 (Or.inl ⟨?hgme2, ?hyme2⟩) (by assumption) ?restme2
    case hime2 => simp only [List.getElem?_toArray, List.getElem?_cons_zero, List.getElem?_cons_succ]; rfl
    case hqme2 => exact fun _ _ _ h => h
    case hgme2 => rfl
    case hyme2 =>
      intro wq hSw
      replace hx0 := keep_cell hSw hx0
      replace hx1 := keep_cell hSw hx1
      go_simp
      (try with_reducible rfl)
    (try simp only [Act.put, List.setIfInBounds_toArray, List.set_cons_zero, List.set_cons_succ])
    refine wpAnyH_take (i := 3) (oi := ?oome3) (v := ?vvme3) ?hime3 (by kernel_rfl) (by kernel_rfl) (by kernel_rfl) ?hqme3 (Or.inl ⟨?hgme3, ?hyme3⟩) (by assumption) ?restme3
    case hime3 => simp only [List.getElem?_toArray, List.getElem?_cons_zero, List.getElem?_cons_succ]; rfl
    case hqme3 => exact fun _ _ _ h => h
    case hgme3 => rfl
    case hyme3 =>
      intro wq hSw
      replace hx0 := keep_cell hSw hx0
      replace hx1 := keep_cell hSw hx1
      go_simp
      (try with_reducible rfl)
    (try simp only [Act.put, List.setIfInBounds_toArray, List.set_cons_zero, List.set_cons_succ])
    refine wpAnyH_take (i := 6) (oi := ?oome4) (v := ?vvme4) ?hime4 (by kernel_rfl) (by kernel_rfl) (by kernel_rfl) ?hqme4 (Or.inl ⟨?hgme4, ?hyme4⟩) (by assumption) ?restme4
    case hime4 => simp only [List.getElem?_toArray, List.getElem?_cons_zero, List.getElem?_cons_succ]; rfl
    case hqme4 => exact fun _ _ _ h => h
    case hgme4 => rfl
    case hyme4 =>
      intro wq hSw
      replace hx0 := keep_cell hSw hx0
      replace hx1 := keep_cell hSw hx1
      go_simp
      (try with_reducible rfl)
    (try simp only [Act.put, List.setIfInBounds_toArray, List.set_cons_zero, List.set_cons_succ])
    refine wpAnyH_ready (rs := [0, 4]) (by kernel_rfl) (by simp) ?_
    refine AllReadyH.cons (i := 0) (o := ?oome5) ?home5 (fun K hK => ?hstepme5) ?moreme5
    case home5 => simp only [List.getElem?_toArray, List.getElem?_cons_zero]; rfl
    case hstepme5 =>
      go_simp
      refine hK.out _ _ (by (repeat (first | with_reducible exact Below.refl _ _ | with_reducible assumption | with_reducible refine Below.alloc' ?_ ?_ _ | with_reducible refine Below.setCell' ?_ ?_ _ | with_reducible refine Below.drewN' ?_ _ | with_reducible refine Below.drew ?_ | with_reducible refine Below.transA ?_ (by assumption) ?_ | omega | (focus (simp; done)) | (focus (simp; omega))))) (fun hHeld => ?_)
      clear hK K
      (try simp only [Act.put, List.setIfInBounds_toArray, List.set_cons_zero, List.set_cons_succ])
      refine wpAnyH_name hHeld (fun wa hb hwz => ?_)
      (try replace hown := own_below hown hb)
      (try replace hrS := hrS.below hb)
      (try replace hrT := hrT.below hb)
      (try replace hiP := hiP.below hb)
      have hz := hb.size
      have hown : wa.ownsRow (w.heap.size + 1) 51 2 (.slice (some ⟨wb.heap.size, 0, none⟩) 0 0) 0 [] := by rw [hwz]; exact (own_empty2 wb (w.heap.size + 1) wb.heap.size rfl (by have := hw.size; have := HW1.out; simp at *; omega)).drew
      have hlO := hown.lt wb.heap.size rfl
      refine wpAnyH_mono (S' := fun w' => Below wa.heap.size wa w') (fun _ h => keep_below h hb) _ _ _ _ ?_
      replace hw := keep_below_dr hb hw
      replace hx0 := keep_cell hb hx0
      replace hx1 := keep_cell hb hx1
      clear hHeld hb hwz
      have hHeld : Below wa.heap.size wa wa := (Below.refl _ _)
      refine wpAnyH_ready (rs := [4]) (by kernel_rfl) (by simp) ?_
      refine AllReadyH.cons (i := 4) (o := ?oome6) ?home6 (fun K hK => ?hstepme6) AllReadyH.nil
      case home6 => simp only [List.getElem?_toArray, List.getElem?_cons_zero, List.getElem?_cons_succ]; rfl
      go_simp
      refine (HSp.out _ (h.below hw) (k.below hw) (zp.below hw)).mono ?_
      rintro e1 wz ⟨Ap, cq, rfl, hop, hb⟩
      (try replace hown := own_below hown hb)
      (try replace hrS := hrS.below hb)
      (try replace hrT := hrT.below hb)
      (try replace hiP := hiP.below hb)
      have hz := hb.size
      have hiP := hop.ints
      clear hop
      go_wp2_with fail
      refine hK.out _ _ (keep_below hb hHeld) (fun _ => ?_)
      clear hK K
      (try simp only [Act.put, List.setIfInBounds_toArray, List.set_cons_zero, List.set_cons_succ])
      refine wpAnyH_mono (S' := fun w' => Below wz.heap.size wz w') (fun _ h => keep_below h (keep_below hb hHeld)) _ _ _ _ ?_
      replace hw := keep_below hb hw
      replace hx0 := keep_cell hb hx0
      replace hx1 := keep_cell hb hx1
      clear hHeld hb
      have hHeld : Below wz.heap.size wz wz := (Below.refl _ _)
      refine wpAnyH_ready (rs := [5]) (by kernel_rfl) (by simp) ?_
      refine AllReadyH.cons (i := 5) (o := ?oome7) ?home7 (fun K hK => ?hstepme7) AllReadyH.nil
      case home7 => simp only [List.getElem?_toArray, List.getElem?_cons_zero, List.getElem?_cons_succ]; rfl
      go_simp
      refine (HGa.out _ _ _ (h.below hw) hiP).mono ?_
      rintro e1 wz ⟨At, ct, rfl, hot, hb⟩
      clear hiP
      (try replace hown := own_below hown hb)
      (try replace hrS := hrS.below hb)
      (try replace hrT := hrT.below hb)
      (try replace hiP := hiP.below hb)
      have hz := hb.size
      obtain ⟨gT, rfl, hgT, hrT⟩ := hot.pos HTL1.out
      have hlT := hrT.lt
      clear hot
      go_wp2_with fail
      refine hK.out _ _ (keep_below hb hHeld) (fun _ => ?_)
      clear hK K
      (try simp only [Act.put, List.setIfInBounds_toArray, List.set_cons_zero, List.set_cons_succ])
      refine wpAnyH_mono (S' := fun w' => Below wz.heap.size wz w') (fun _ h => keep_below h (keep_below hb hHeld)) _ _ _ _ ?_
      replace hw := keep_below hb hw
      replace hx0 := keep_cell hb hx0
      replace hx1 := keep_cell hb hx1
      clear hHeld hb
      have hHeld : Below wz.heap.size wz wz := (Below.refl _ _)
      refine wpAnyH_ready (rs := [7]) (by kernel_rfl) (by simp) ?_
      refine AllReadyH.cons (i := 7) (o := ?oome8) ?home8 (fun K hK => ?hstepme8) AllReadyH.nil
      case home8 => simp only [List.getElem?_toArray, List.getElem?_cons_zero, List.getElem?_cons_succ]; rfl
      go_simp
      refine (HSu.out _ (h.below hw) (k.below hw)).mono ?_
      rintro e1 wz ⟨As, cs, rfl, hos, hb⟩
      (try replace hown := own_below hown hb)
      (try replace hrS := hrS.below hb)
      (try replace hrT := hrT.below hb)
      (try replace hiP := hiP.below hb)
      have hz := hb.size
      obtain ⟨gS, rfl, hgS, hrS⟩ := hos.pos HSL1.out
      have hlS := hrS.lt
      clear hos
      go_wp2_with fail
      refine hK.out _ _ (keep_below hb hHeld) (fun _ => ?_)
      clear hK K
      (try simp only [Act.put, List.setIfInBounds_toArray, List.set_cons_zero, List.set_cons_succ])
      refine wpAnyH_mono (S' := fun w' => Below wz.heap.size wz w') (fun _ h => keep_below h (keep_below hb hHeld)) _ _ _ _ ?_
      replace hw := keep_below hb hw
      replace hx0 := keep_cell hb hx0
      replace hx1 := keep_cell hb hx1
      clear hHeld hb
      have hHeld : Below wz.heap.size wz wz := (Below.refl _ _)
      refine wpAnyH_take (i := 8) (oi := ?oome9) (v := ?vvme9) ?hime9 (by kernel_rfl) (by kernel_rfl) (by kernel_rfl) ?hqme9 (Or.inl ⟨?hgme9, ?hyme9⟩) (by assumption) ?restme9
      case hime9 => simp only [List.getElem?_toArray, List.getElem?_cons_zero, List.getElem?_cons_succ]; rfl
      case hqme9 => exact fun _ _ _ h => h
      case hgme9 => rfl
      case hyme9 =>
        intro wq hSw
        replace hx0 := keep_cell hSw hx0
        replace hx1 := keep_cell hSw hx1
        go_simp
        (try with_reducible rfl)
      (try simp only [Act.put, List.setIfInBounds_toArray, List.set_cons_zero, List.set_cons_succ])
      refine wpAnyH_take (i := 9) (oi := ?oome10) (v := ?vvme10) ?hime10 (by kernel_rfl) (by kernel_rfl) (by kernel_rfl) ?hqme10 (Or.inl ⟨?hgme10, ?hyme10⟩) (by assumption) ?restme10
      case hime10 => simp only [List.getElem?_toArray, List.getElem?_cons_zero, List.getElem?_cons_succ]; rfl
      case hqme10 => exact fun _ _ _ h => h
      case hgme10 => rfl
      case hyme10 =>
        intro wq hSw
        replace hx0 := keep_cell hSw hx0
        replace hx1 := keep_cell hSw hx1
        go_simp
        (try with_reducible rfl)
      (try simp only [Act.put, List.setIfInBounds_toArray, List.set_cons_zero, List.set_cons_succ])
      refine wpAnyH_take (i := 10) (oi := ?oome11) (v := ?vvme11) ?hime11 (by kernel_rfl) (by kernel_rfl) (by kernel_rfl) ?hqme11 (Or.inl ⟨?hgme11, ?hyme11⟩) (by assumption) ?restme11
      case hime11 => simp only [List.getElem?_toArray, List.getElem?_cons_zero, List.getElem?_cons_succ]; rfl
      case hqme11 => exact fun _ _ _ h => h
      case hgme11 => rfl
      case hyme11 =>
        intro wq hSw
        replace hx0 := keep_cell hSw hx0
        replace hx1 := keep_cell hSw hx1
        go_simp
        (try with_reducible rfl)
      (try simp only [Act.put, List.setIfInBounds_toArray, List.set_cons_zero, List.set_cons_succ])
      clear hHeld
      refine wpAnyH_done (by kernel_rfl) ?_ _
      go_wp2_with fail
      go_meet
      go_split_ands
      have hW1 := HW1.out
      exact ⟨_, _, _, _, _, rfl, rfl, rfl, by simp at *; omega, by simp at *; omega, by simp at *; omega, by simp at *; omega, hown, hrS, hrT, hw⟩
    refine AllReadyH.cons (i := 4) (o := ?oome12) ?home12 (fun K hK => ?hstepme12) ?moreme12
    case home12 => simp only [List.getElem?_toArray, List.getElem?_cons_zero, List.getElem?_cons_succ]; rfl
    case hstepme12 =>
      go_simp
      refine (HSp.out _ (h.below hw) (k.below hw) (zp.below hw)).mono ?_
      rintro e1 wz ⟨Ap, cq, rfl, hop, hb⟩
      (try replace hown := own_below hown hb)
      (try replace hrS := hrS.below hb)
      (try replace hrT := hrT.below hb)
      (try replace hiP := hiP.below hb)
      have hz := hb.size
      have hiP := hop.ints
      clear hop
      go_wp2_with fail
      refine hK.out _ _ (keep_below hb hHeld) (fun _ => ?_)
      clear hK K
      (try simp only [Act.put, List.setIfInBounds_toArray, List.set_cons_zero, List.set_cons_succ])
      refine wpAnyH_mono (S' := fun w' => Below wz.heap.size wz w') (fun _ h => keep_below h (keep_below hb hHeld)) _ _ _ _ ?_
      replace hw := keep_below hb hw
      replace hx0 := keep_cell hb hx0
      replace hx1 := keep_cell hb hx1
      clear hHeld hb
      have hHeld : Below wz.heap.size wz wz := (Below.refl _ _)
      refine wpAnyH_ready (rs := [0, 5]) (by kernel_rfl) (by simp) ?_
      refine AllReadyH.cons (i := 0) (o := ?oome13) ?home13 (fun K hK => ?hstepme13) ?moreme13
      case home13 => simp only [List.getElem?_toArray, List.getElem?_cons_zero]; rfl
      case hstepme13 =>
        go_simp
        refine hK.out _ _ (by (repeat (first | with_reducible exact Below.refl _ _ | with_reducible assumption | with_reducible refine Below.alloc' ?_ ?_ _ | with_reducible refine Below.setCell' ?_ ?_ _ | with_reducible refine Below.drewN' ?_ _ | with_reducible refine Below.drew ?_ | with_reducible refine Below.transA ?_ (by assumption) ?_ | omega | (focus (simp; done)) | (focus (simp; omega))))) (fun hHeld => ?_)
        clear hK K
        (try simp only [Act.put, List.setIfInBounds_toArray, List.set_cons_zero, List.set_cons_succ])
        refine wpAnyH_name hHeld (fun wa hb hwz => ?_)
        (try replace hown := own_below hown hb)
        (try replace hrS := hrS.below hb)
        (try replace hrT := hrT.below hb)
        (try replace hiP := hiP.below hb)
        have hz := hb.size
        have hown : wa.ownsRow (w.heap.size + 1) 51 2 (.slice (some ⟨wz.heap.size, 0, none⟩) 0 0) 0 [] := by rw [hwz]; exact own_empty2 wz (w.heap.size + 1) wz.heap.size rfl (by have := hw.size; have := HW1.out; simp at *; omega)
        have hlO := hown.lt wz.heap.size rfl
        refine wpAnyH_mono (S' := fun w' => Below wa.heap.size wa w') (fun _ h => keep_below h hb) _ _ _ _ ?_
        replace hw := keep_below hb hw
        replace hx0 := keep_cell hb hx0
        replace hx1 := keep_cell hb hx1
        clear hHeld hb hwz
        have hHeld : Below wa.heap.size wa wa := (Below.refl _ _)
        refine wpAnyH_ready (rs := [5]) (by kernel_rfl) (by simp) ?_
        refine AllReadyH.cons (i := 5) (o := ?oome14) ?home14 (fun K hK => ?hstepme14) AllReadyH.nil
        case home14 => simp only [List.getElem?_toArray, List.getElem?_cons_zero, List.getElem?_cons_succ]; rfl
        go_simp
        refine (HGa.out _ _ _ (h.below hw) hiP).mono ?_
        rintro e1 wz ⟨At, ct, rfl, hot, hb⟩
        clear hiP
        (try replace hown := own_below hown hb)
        (try replace hrS := hrS.below hb)
        (try replace hrT := hrT.below hb)
        (try replace hiP := hiP.below hb)
        have hz := hb.size
        obtain ⟨gT, rfl, hgT, hrT⟩ := hot.pos HTL1.out
        have hlT := hrT.lt
        clear hot
        go_wp2_with fail
        refine hK.out _ _ (keep_below hb hHeld) (fun _ => ?_)
        clear hK K
        (try simp only [Act.put, List.setIfInBounds_toArray, List.set_cons_zero, List.set_cons_succ])
        refine wpAnyH_mono (S' := fun w' => Below wz.heap.size wz w') (fun _ h => keep_below h (keep_below hb hHeld)) _ _ _ _ ?_
        replace hw := keep_below hb hw
        replace hx0 := keep_cell hb hx0
        replace hx1 := keep_cell hb hx1
        clear hHeld hb
        have hHeld : Below wz.heap.size wz wz := (Below.refl _ _)
        refine wpAnyH_ready (rs := [7]) (by kernel_rfl) (by simp) ?_
        refine AllReadyH.cons (i := 7) (o := ?oome15) ?home15 (fun K hK => ?hstepme15) AllReadyH.nil
        case home15 => simp only [List.getElem?_toArray, List.getElem?_cons_zero, List.getElem?_cons_succ]; rfl
        go_simp
        refine (HSu.out _ (h.below hw) (k.below hw)).mono ?_
        rintro e1 wz ⟨As, cs, rfl, hos, hb⟩
        (try replace hown := own_below hown hb)
        (try replace hrS := hrS.below hb)
        (try replace hrT := hrT.below hb)
        (try replace hiP := hiP.below hb)
        have hz := hb.size
        obtain ⟨gS, rfl, hgS, hrS⟩ := hos.pos HSL1.out
        have hlS := hrS.lt
        clear hos
        go_wp2_with fail
        refine hK.out _ _ (keep_below hb hHeld) (fun _ => ?_)
        clear hK K
        (try simp only [Act.put, List.setIfInBounds_toArray, List.set_cons_zero, List.set_cons_succ])
        refine wpAnyH_mono (S' := fun w' => Below wz.heap.size wz w') (fun _ h => keep_below h (keep_below hb hHeld)) _ _ _ _ ?_
        replace hw := keep_below hb hw
        replace hx0 := keep_cell hb hx0
        replace hx1 := keep_cell hb hx1
        clear hHeld hb
        have hHeld : Below wz.heap.size wz wz := (Below.refl _ _)
        refine wpAnyH_take (i := 8) (oi := ?oome16) (v := ?vvme16) ?hime16 (by kernel_rfl) (by kernel_rfl) (by kernel_rfl) ?hqme16 (Or.inl ⟨?hgme16, ?hyme16⟩) (by assumption) ?restme16
        case hime16 => simp only [List.getElem?_toArray, List.getElem?_cons_zero, List.getElem?_cons_succ]; rfl
        case hqme16 => exact fun _ _ _ h => h
        case hgme16 => rfl
        case hyme16 =>
          intro wq hSw
          replace hx0 := keep_cell hSw hx0
          replace hx1 := keep_cell hSw hx1
          go_simp
          (try with_reducible rfl)
        (try simp only [Act.put, List.setIfInBounds_toArray, List.set_cons_zero, List.set_cons_succ])
        refine wpAnyH_take (i := 9) (oi := ?oome17) (v := ?vvme17) ?hime17 (by kernel_rfl) (by kernel_rfl) (by kernel_rfl) ?hqme17 (Or.inl ⟨?hgme17, ?hyme17⟩) (by assumption) ?restme17
        case hime17 => simp only [List.getElem?_toArray, List.getElem?_cons_zero, List.getElem?_cons_succ]; rfl
        case hqme17 => exact fun _ _ _ h => h
        case hgme17 => rfl
        case hyme17 =>
          intro wq hSw
          replace hx0 := keep_cell hSw hx0
          replace hx1 := keep_cell hSw hx1
          go_simp
          (try with_reducible rfl)
        (try simp only [Act.put, List.setIfInBounds_toArray, List.set_cons_zero, List.set_cons_succ])
        refine wpAnyH_take (i := 10) (oi := ?oome18) (v := ?vvme18) ?hime18 (by kernel_rfl) (by kernel_rfl) (by kernel_rfl) ?hqme18 (Or.inl ⟨?hgme18, ?hyme18⟩) (by assumption) ?restme18
        case hime18 => simp only [List.getElem?_toArray, List.getElem?_cons_zero, List.getElem?_cons_succ]; rfl
        case hqme18 => exact fun _ _ _ h => h
        case hgme18 => rfl
        case hyme18 =>
          intro wq hSw
          replace hx0 := keep_cell hSw hx0
          replace hx1 := keep_cell hSw hx1
          go_simp
          (try with_reducible rfl)
        (try simp only [Act.put, List.setIfInBounds_toArray, List.set_cons_zero, List.set_cons_succ])
        clear hHeld
        refine wpAnyH_done (by kernel_rfl) ?_ _
        go_wp2_with fail
        go_meet
        go_split_ands
        have hW1 := HW1.out
        exact ⟨_, _, _, _, _, rfl, rfl, rfl, by simp at *; omega, by simp at *; omega, by simp at *; omega, by simp at *; omega, hown, hrS, hrT, hw⟩
      refine AllReadyH.cons (i := 5) (o := ?oome19) ?home19 (fun K hK => ?hstepme19) ?moreme19
      case home19 => simp only [List.getElem?_toArray, List.getElem?_cons_zero, List.getElem?_cons_succ]; rfl
      case hstepme19 =>
        go_simp
        refine (HGa.out _ _ _ (h.below hw) hiP).mono ?_
        rintro e1 wz ⟨At, ct, rfl, hot, hb⟩
        clear hiP
        (try replace hown := own_below hown hb)
        (try replace hrS := hrS.below hb)
        (try replace hrT := hrT.below hb)
        (try replace hiP := hiP.below hb)
        have hz := hb.size
        obtain ⟨gT, rfl, hgT, hrT⟩ := hot.pos HTL1.out
        have hlT := hrT.lt
        clear hot
        go_wp2_with fail
        refine hK.out _ _ (keep_below hb hHeld) (fun _ => ?_)
        clear hK K
        (try simp only [Act.put, List.setIfInBounds_toArray, List.set_cons_zero, List.set_cons_succ])
        refine wpAnyH_mono (S' := fun w' => Below wz.heap.size wz w') (fun _ h => keep_below h (keep_below hb hHeld)) _ _ _ _ ?_
        replace hw := keep_below hb hw
        replace hx0 := keep_cell hb hx0
        replace hx1 := keep_cell hb hx1
        clear hHeld hb
        have hHeld : Below wz.heap.size wz wz := (Below.refl _ _)
        refine wpAnyH_ready (rs := [0, 7]) (by kernel_rfl) (by simp) ?_
        refine AllReadyH.cons (i := 0) (o := ?oome20) ?home20 (fun K hK => ?hstepme20) ?moreme20
        case home20 => simp only [List.getElem?_toArray, List.getElem?_cons_zero]; rfl
        case hstepme20 =>
          go_simp
          refine hK.out _ _ (by (repeat (first | with_reducible exact Below.refl _ _ | with_reducible assumption | with_reducible refine Below.alloc' ?_ ?_ _ | with_reducible refine Below.setCell' ?_ ?_ _ | with_reducible refine Below.drewN' ?_ _ | with_reducible refine Below.drew ?_ | with_reducible refine Below.transA ?_ (by assumption) ?_ | omega | (focus (simp; done)) | (focus (simp; omega))))) (fun hHeld => ?_)
          clear hK K
          (try simp only [Act.put, List.setIfInBounds_toArray, List.set_cons_zero, List.set_cons_succ])
          refine wpAnyH_name hHeld (fun wa hb hwz => ?_)
          (try replace hown := own_below hown hb)
          (try replace hrS := hrS.below hb)
          (try replace hrT := hrT.below hb)
          (try replace hiP := hiP.below hb)
          have hz := hb.size
          have hown : wa.ownsRow (w.heap.size + 1) 51 2 (.slice (some ⟨wz.heap.size, 0, none⟩) 0 0) 0 [] := by rw [hwz]; exact own_empty2 wz (w.heap.size + 1) wz.heap.size rfl (by have := hw.size; have := HW1.out; simp at *; omega)
          have hlO := hown.lt wz.heap.size rfl
          refine wpAnyH_mono (S' := fun w' => Below wa.heap.size wa w') (fun _ h => keep_below h hb) _ _ _ _ ?_
          replace hw := keep_below hb hw
          replace hx0 := keep_cell hb hx0
          replace hx1 := keep_cell hb hx1
          clear hHeld hb hwz
          have hHeld : Below wa.heap.size wa wa := (Below.refl _ _)
          refine wpAnyH_ready (rs := [7]) (by kernel_rfl) (by simp) ?_
          refine AllReadyH.cons (i := 7) (o := ?oome21) ?home21 (fun K hK => ?hstepme21) AllReadyH.nil
          case home21 => simp only [List.getElem?_toArray, List.getElem?_cons_zero, List.getElem?_cons_succ]; rfl
          go_simp
          refine (HSu.out _ (h.below hw) (k.below hw)).mono ?_
          rintro e1 wz ⟨As, cs, rfl, hos, hb⟩
          (try replace hown := own_below hown hb)
          (try replace hrS := hrS.below hb)
          (try replace hrT := hrT.below hb)
          (try replace hiP := hiP.below hb)
          have hz := hb.size
          obtain ⟨gS, rfl, hgS, hrS⟩ := hos.pos HSL1.out
          have hlS := hrS.lt
          clear hos
          go_wp2_with fail
          refine hK.out _ _ (keep_below hb hHeld) (fun _ => ?_)
          clear hK K
          (try simp only [Act.put, List.setIfInBounds_toArray, List.set_cons_zero, List.set_cons_succ])
          refine wpAnyH_mono (S' := fun w' => Below wz.heap.size wz w') (fun _ h => keep_below h (keep_below hb hHeld)) _ _ _ _ ?_
          replace hw := keep_below hb hw
          replace hx0 := keep_cell hb hx0
          replace hx1 := keep_cell hb hx1
          clear hHeld hb
          have hHeld : Below wz.heap.size wz wz := (Below.refl _ _)
          refine wpAnyH_take (i := 8) (oi := ?oome22) (v := ?vvme22) ?hime22 (by kernel_rfl) (by kernel_rfl) (by kernel_rfl) ?hqme22 (Or.inl ⟨?hgme22, ?hyme22⟩) (by assumption) ?restme22
          case hime22 => simp only [List.getElem?_toArray, List.getElem?_cons_zero, List.getElem?_cons_succ]; rfl
          case hqme22 => exact fun _ _ _ h => h
          case hgme22 => rfl
          case hyme22 =>
            intro wq hSw
            replace hx0 := keep_cell hSw hx0
            replace hx1 := keep_cell hSw hx1
            go_simp
            (try with_reducible rfl)
          (try simp only [Act.put, List.setIfInBounds_toArray, List.set_cons_zero, List.set_cons_succ])
          refine wpAnyH_take (i := 9) (oi := ?oome23) (v := ?vvme23) ?hime23 (by kernel_rfl) (by kernel_rfl) (by kernel_rfl) ?hqme23 (Or.inl ⟨?hgme23, ?hyme23⟩) (by assumption) ?restme23
          case hime23 => simp only [List.getElem?_toArray, List.getElem?_cons_zero, List.getElem?_cons_succ]; rfl
          case hqme23 => exact fun _ _ _ h => h
          case hgme23 => rfl
          case hyme23 =>
            intro wq hSw
            replace hx0 := keep_cell hSw hx0
            replace hx1 := keep_cell hSw hx1
            go_simp
            (try with_reducible rfl)
          (try simp only [Act.put, List.setIfInBounds_toArray, List.set_cons_zero, List.set_cons_succ])
          refine wpAnyH_take (i := 10) (oi := ?oome24) (v := ?vvme24) ?hime24 (by kernel_rfl) (by kernel_rfl) (by kernel_rfl) ?hqme24 (Or.inl ⟨?hgme24, ?hyme24⟩) (by assumption) ?restme24
          case hime24 => simp only [List.getElem?_toArray, List.getElem?_cons_zero, List.getElem?_cons_succ]; rfl
          case hqme24 => exact fun _ _ _ h => h
          case hgme24 => rfl
          case hyme24 =>
            intro wq hSw
            replace hx0 := keep_cell hSw hx0
            replace hx1 := keep_cell hSw hx1
            go_simp
            (try with_reducible rfl)
          (try simp only [Act.put, List.setIfInBounds_toArray, List.set_cons_zero, List.set_cons_succ])
          clear hHeld
          refine wpAnyH_done (by kernel_rfl) ?_ _
          go_wp2_with fail
          go_meet
          go_split_ands
          have hW1 := HW1.out
          exact ⟨_, _, _, _, _, rfl, rfl, rfl, by simp at *; omega, by simp at *; omega, by simp at *; omega, by simp at *; omega, hown, hrS, hrT, hw⟩
        refine AllReadyH.cons (i := 7) (o := ?oome25) ?home25 (fun K hK => ?hstepme25) ?moreme25
        case home25 => simp only [List.getElem?_toArray, List.getElem?_cons_zero, List.getElem?_cons_succ]; rfl
        case hstepme25 =>
          go_simp
          refine (HSu.out _ (h.below hw) (k.below hw)).mono ?_
          rintro e1 wz ⟨As, cs, rfl, hos, hb⟩
          (try replace hown := own_below hown hb)
          (try replace hrS := hrS.below hb)
          (try replace hrT := hrT.below hb)
          (try replace hiP := hiP.below hb)
          have hz := hb.size
          obtain ⟨gS, rfl, hgS, hrS⟩ := hos.pos HSL1.out
          have hlS := hrS.lt
          clear hos
          go_wp2_with fail
          refine hK.out _ _ (keep_below hb hHeld) (fun _ => ?_)
          clear hK K
          (try simp only [Act.put, List.setIfInBounds_toArray, List.set_cons_zero, List.set_cons_succ])
          refine wpAnyH_mono (S' := fun w' => Below wz.heap.size wz w') (fun _ h => keep_below h (keep_below hb hHeld)) _ _ _ _ ?_
          replace hw := keep_below hb hw
          replace hx0 := keep_cell hb hx0
          replace hx1 := keep_cell hb hx1
          clear hHeld hb
          have hHeld : Below wz.heap.size wz wz := (Below.refl _ _)
          refine wpAnyH_ready (rs := [0]) (by kernel_rfl) (by simp) ?_
          refine AllReadyH.cons (i := 0) (o := ?oome26) ?home26 (fun K hK => ?hstepme26) AllReadyH.nil
          case home26 => simp only [List.getElem?_toArray, List.getElem?_cons_zero]; rfl
          go_simp
          refine hK.out _ _ (by (repeat (first | with_reducible exact Below.refl _ _ | with_reducible assumption | with_reducible refine Below.alloc' ?_ ?_ _ | with_reducible refine Below.setCell' ?_ ?_ _ | with_reducible refine Below.drewN' ?_ _ | with_reducible refine Below.drew ?_ | with_reducible refine Below.transA ?_ (by assumption) ?_ | omega | (focus (simp; done)) | (focus (simp; omega))))) (fun hHeld => ?_)
          clear hK K
          (try simp only [Act.put, List.setIfInBounds_toArray, List.set_cons_zero, List.set_cons_succ])
          refine wpAnyH_name hHeld (fun wa hb hwz => ?_)
          (try replace hown := own_below hown hb)
          (try replace hrS := hrS.below hb)
          (try replace hrT := hrT.below hb)
          (try replace hiP := hiP.below hb)
          have hz := hb.size
          have hown : wa.ownsRow (w.heap.size + 1) 51 2 (.slice (some ⟨wz.heap.size, 0, none⟩) 0 0) 0 [] := by rw [hwz]; exact own_empty2 wz (w.heap.size + 1) wz.heap.size rfl (by have := hw.size; have := HW1.out; simp at *; omega)
          have hlO := hown.lt wz.heap.size rfl
          refine wpAnyH_mono (S' := fun w' => Below wa.heap.size wa w') (fun _ h => keep_below h hb) _ _ _ _ ?_
          replace hw := keep_below hb hw
          replace hx0 := keep_cell hb hx0
          replace hx1 := keep_cell hb hx1
          clear hHeld hb hwz
          have hHeld : Below wa.heap.size wa wa := (Below.refl _ _)
          refine wpAnyH_take (i := 8) (oi := ?oome27) (v := ?vvme27) ?hime27 (by kernel_rfl) (by kernel_rfl) (by kernel_rfl) ?hqme27 (Or.inl ⟨?hgme27, ?hyme27⟩) (by assumption) ?restme27
          case hime27 => simp only [List.getElem?_toArray, List.getElem?_cons_zero, List.getElem?_cons_succ]; rfl
          case hqme27 => exact fun _ _ _ h => h
          case hgme27 => rfl
          case hyme27 =>
            intro wq hSw
            replace hx0 := keep_cell hSw hx0
            replace hx1 := keep_cell hSw hx1
            go_simp
            (try with_reducible rfl)
          (try simp only [Act.put, List.setIfInBounds_toArray, List.set_cons_zero, List.set_cons_succ])
          refine wpAnyH_take (i := 9) (oi := ?oome28) (v := ?vvme28) ?hime28 (by kernel_rfl) (by kernel_rfl) (by kernel_rfl) ?hqme28 (Or.inl ⟨?hgme28, ?hyme28⟩) (by assumption) ?restme28
          case hime28 => simp only [List.getElem?_toArray, List.getElem?_cons_zero, List.getElem?_cons_succ]; rfl
          case hqme28 => exact fun _ _ _ h => h
          case hgme28 => rfl
          case hyme28 =>
            intro wq hSw
            replace hx0 := keep_cell hSw hx0
            replace hx1 := keep_cell hSw hx1
            go_simp
            (try with_reducible rfl)
          (try simp only [Act.put, List.setIfInBounds_toArray, List.set_cons_zero, List.set_cons_succ])
          refine wpAnyH_take (i := 10) (oi := ?oome29) (v := ?vvme29) ?hime29 (by kernel_rfl) (by kernel_rfl) (by kernel_rfl) ?hqme29 (Or.inl ⟨?hgme29, ?hyme29⟩) (by assumption) ?restme29
          case hime29 => simp only [List.getElem?_toArray, List.getElem?_cons_zero, List.getElem?_cons_succ]; rfl
          case hqme29 => exact fun _ _ _ h => h
          case hgme29 => rfl
          case hyme29 =>
            intro wq hSw
            replace hx0 := keep_cell hSw hx0
            replace hx1 := keep_cell hSw hx1
            go_simp
            (try with_reducible rfl)
          (try simp only [Act.put, List.setIfInBounds_toArray, List.set_cons_zero, List.set_cons_succ])
          clear hHeld
          refine wpAnyH_done (by kernel_rfl) ?_ _
          go_wp2_with fail
          go_meet
          go_split_ands
          have hW1 := HW1.out
          exact ⟨_, _, _, _, _, rfl, rfl, rfl, by simp at *; omega, by simp at *; omega, by simp at *; omega, by simp at *; omega, hown, hrS, hrT, hw⟩
        exact AllReadyH.nil
      exact AllReadyH.nil
    exact AllReadyH.nil
  case rest =>
    obtain ⟨gO, gS, gT, cS, cT, rfl, rfl, rfl, hOS, hOT, _, _, hown, hrS, hrT, hw⟩ := hcut
    clear HSu HSp HGa HSL1 HTL1 hx0 hx1 HW1
    go_wp2
    go_loopw [5, 22] (fun v i wr => ∃ j : Nat, j ≤ xs.length ∧ i = .int .i64 j ∧ wr.ownsRow (w.heap.size + 1) 51 2 v j (i64p (F j)) ∧ v.ownBlock ≠ some gS ∧ v.ownBlock ≠ some gT ∧ Row wr gS S ∧ Row wr gT TT ∧ Below w.heap.size w wr) (fun _ i _ => xs.length - (intOf i).toNat)
    case atStart => exact ⟨0, by omega, rfl, by rw [HD0.out]; exact hown, by simpa [Value.ownBlock] using hOS, by simpa [Value.ownBlock] using hOT, hrS, hrT, hw⟩
    case round =>
      clear hown hrS hrT hw hOS hOT
      obtain ⟨j, hj, rfl, hown, hneS, hneT, hrS, hrT, hw⟩ := hrel
      by_cases hlt : j < xs.length
      · have hcS := hrS.cell (j := j) (by rw [HSL.out]; exact hlt)
        have hcT := hrT.cell (j := j) (by rw [HTL.out]; exact hlt)
        have i1 : (j : Int) < S.length := by rw [HSL.out]; omega
        have i2 : (j : Int) < TT.length := by rw [HTL.out]; omega
        have b1 := hsb.out j
        have b2 := hs1.out j hlt
        have b3 := htb.out j
        have hds := HDS.out j
        rw [HDf.out j] at hds
        obtain ⟨s, hs⟩ : ∃ s, nth S j = s := ⟨_, rfl⟩
        obtain ⟨u, hu⟩ : ∃ u, nth TT j = u := ⟨_, rfl⟩
        rw [hs] at hcS b1 b2 hds
        rw [hu] at hcT b3 hds
        clear hs hu
        have hds2 : i64p (F (j + 1)) = i64p (F j) ++ [Value.int .i64 (lowX u s), Value.int .i64 (lowY u s)] := by rw [hds]; exact i64p_app _ _ _
        have HPX := Lib.hid hds2
        have HC := fun W => lowest_any u s W (by omega) (by omega) (by omega)
        have hlo := low_small (a := u) (b := s) (by omega) (by omega)
        rw [hlo.1, hlo.2.1, hlo.2.2] at HC
        clear hlo
        replace HC := Lib.hid HC
        clear hds hds2
        generalize F j = FX at *
        generalize lowX u s = a9 at *
        generalize lowY u s = b9 at *
        go_wp2_with fail
        refine (HC.out _).mono ?_
        rintro e1 w3 ⟨rfl, hb2⟩
        replace hown := own_below hown hb2
        replace hrS := hrS.below hb2
        replace hrT := hrT.below hb2
        replace hw := keep_below hb2 hw
        clear hb2
        have hwz := hw.size
        have hsz3 : (w3.alloc (.cells #[.int .i64 a9, .int .i64 b9] 51)).heap.size = w3.heap.size + 1 := by simp
        replace hown := hown.alloc (.cells #[.int .i64 a9, .int .i64 b9] 51)
        replace hrS := hrS.alloc (.cells #[.int .i64 a9, .int .i64 b9] 51)
        replace hrT := hrT.alloc (.cells #[.int .i64 a9, .int .i64 b9] 51)
        replace hw := hw.alloc hw.size (.cells #[.int .i64 a9, .int .i64 b9] 51)
        have hcn := cells2_new (w3.alloc (.cells #[.int .i64 a9, .int .i64 b9] 51)) (.int .i64 a9) (.int .i64 b9) 51
        rw [hsz3] at hcn
        go_wp2_with (at_builtin; ((refine wpList_append_own_at _ rfl _ _ 44 rfl (w.heap.size + 1) 51 i0 (.agg #[.int .i64 0, .int .i64 0]) 2 16 Try.underlying44 hi hz0 hz1 hz2 rfl (by decide) _ _ _ rfl (hown.alloc _) ⟨w3.heap.size + 1, 0, none⟩ 1 1 [.int .i64 (a9), .int .i64 (b9)] rfl rfl hcn (by simp [Value.oneCell']) (by unfold maxLen; omega) (by omega) (by simp; omega) ?_); intro v' w1 hown1 hgrow _ hat))
        have hrS1 := (hrS.alloc _).grown hgrow (fun h => hneS (by exact h.symm))
        have hrT1 := (hrT.alloc _).grown hgrow (fun h => hneT (by exact h.symm))
        have hlS := hrS.lt
        have hlT := hrT.lt
        have hne1 : v'.ownBlock ≠ some gS := by
          rcases hat with e | e
          · rw [e]; exact hneS
          · rw [e]; intro h'; injection h' with h'; simp at h' hlS; omega
        have hne2 : v'.ownBlock ≠ some gT := by
          rcases hat with e | e
          · rw [e]; exact hneT
          · rw [e]; intro h'; injection h' with h'; simp at h' hlT; omega
        have hb3 : Below w.heap.size w w1 := Below.grown (hw.alloc hw.size _) hgrow (by have := hw.size; simp at *; omega) (fun g hg => by have := (hown.lt g hg).1; omega)
        rw [← HPX.out] at hown1
        clear hown hgrow hw HPX hat hrS hrT hneS hneT
        go_wp2
        go_roundw
        case rel => exact ⟨j + 1, by omega, by go_num, hown1, hne1, hne2, hrS1, hrT1, hb3⟩
        case measure => simp only [intOf]; omega
      · have hkn : j = xs.length := by omega
        rw [hkn] at hown
        obtain ⟨A', c', rfl, hO⟩ := own_form2 hown
        have hll := Lib.hid (HDL.out xs.length)
        have i3 : ¬ ((j : Int) < S.length) := by rw [HSL.out]; omega
        have i4 : ¬ ((j : Int) < TT.length) := by rw [HTL.out]; omega
        clear hkn hown HDL HDS hrS hrT hneS hneT
        go_wp2
        go_ret
        exact ⟨A', c', rfl, hO.mono (by omega), hw⟩
set_option maxHeartbeats 1000000 in
set_option maxRecDepth 100000 in
theorem specMeansOf_any (A B : Option Addr) (c e : Nat) (xs ys : List Int) (P : Option Addr) (cp : Nat) (ps : List Int) (w : World) (h : IntS w A xs) (k : IntS w B ys) (zp : IntS w P ps) (_hx : Bd xs) (_hy : Bd ys) (_bp : Bd ps) (hn : xs.length ≤ 1048576) (hm : ys.length ≤ 1048576) (lp : ps.length ≤ 1048576) :
    Calls Try.prog 62 #[.agg #[.slice A xs.length c, .slice B ys.length e], .slice P ps.length cp] w (RetPB w (mnsR xs ys ps) (mnsOk xs ys ps)) := by
  obtain ⟨r1, q1⟩ : ∃ r, (good xs ys && payB xs ps) = r := ⟨_, rfl⟩
  cases r1
  case false =>
    have hO : mnsOk xs ys ps = false := by unfold mnsOk ; simp [q1]
    have hV_mnsR := mnsR_no hO
    rw [hV_mnsR]
    (try rw [hO])
    clear hO hV_mnsR
    have HG1 := Lib.hid (fun W (h : IntS W A xs) (k : IntS W B ys) (zp : IntS W P ps) => l2Pays_any A B P c e cp xs ys ps W h k zp _hx _hy hn hm lp)
    rw [q1] at HG1
    clear q1 _hx _hy _bp
    go_enter Try.func62, Try.ntmps62
    go_wp2_with fail
    refine (HG1.out _ (h.alloc _) (k.alloc _) (zp.alloc _)).mono ?_
    rintro e1 w1 ⟨rfl, hb⟩
    have hx0 : w1.cell? ⟨w.heap.size, 0, none⟩ = some (.slice A xs.length c) := keep_cell hb (by simp)
    have hx1 : w1.cell? ⟨w.heap.size, 1, none⟩ = some (.slice B ys.length e) := keep_cell hb (by simp)
    have hw : Below w.heap.size w w1 := below_alloc (hb)
    clear hb
    go_wp2
    go_ret2
    exact ⟨_, _, rfl, .inr ⟨_, rfl, hw.size, ⟨#[], heap_alloc_new _ _, [], rfl⟩⟩, keep_below_alloc hw _⟩
  case true =>
    have hO : mnsOk xs ys ps = true := by unfold mnsOk ; simp [q1]
    have hV_mnsR := mnsR_yes hO
    rw [hV_mnsR]
    (try rw [hO])
    clear hO hV_mnsR
    have HG1 := Lib.hid (fun W (h : IntS W A xs) (k : IntS W B ys) (zp : IntS W P ps) => l2Pays_any A B P c e cp xs ys ps W h k zp _hx _hy hn hm lp)
    rw [q1] at HG1
    have HD := Lib.hid (fun W (h : IntS W A xs) (k : IntS W B ys) (zp : IntS W P ps) => l2Means_good (Bool.and_eq_true_iff.1 q1).1 A B P c e cp ps W h k zp (Bool.and_eq_true_iff.1 q1).2)
    generalize mnsK xs ys ps xs.length = L at *
    clear q1 _hx _hy _bp
    go_enter Try.func62, Try.ntmps62
    go_wp2_with fail
    refine (HG1.out _ (h.alloc _) (k.alloc _) (zp.alloc _)).mono ?_
    rintro e1 w1 ⟨rfl, hb⟩
    have hx0 : w1.cell? ⟨w.heap.size, 0, none⟩ = some (.slice A xs.length c) := keep_cell hb (by simp)
    have hx1 : w1.cell? ⟨w.heap.size, 1, none⟩ = some (.slice B ys.length e) := keep_cell hb (by simp)
    have hw : Below w.heap.size w w1 := below_alloc (hb)
    clear hb
    go_wp2_with fail
    refine (HD.out _ (h.below hw) (k.below hw) (zp.below hw)).mono ?_
    rintro e1 w9 ⟨A1, c1, rfl, ho, hb1⟩
    go_wp2
    go_ret2
    exact ⟨A1, c1, rfl, ho.mono hw.size, keep_below hb1 hw⟩
set_option maxHeartbeats 1000000 in
set_option maxRecDepth 100000 in
theorem implMeansOf_any (A B : Option Addr) (c e : Nat) (xs ys : List Int) (P : Option Addr) (cp : Nat) (ps : List Int) (w : World) (h : IntS w A xs) (k : IntS w B ys) (zp : IntS w P ps) (_hx : Bd xs) (_hy : Bd ys) (_bp : Bd ps) (hn : xs.length ≤ 1048576) (hm : ys.length ≤ 1048576) (lp : ps.length ≤ 1048576) :
    Calls Try.prog 61 #[.agg #[.slice A xs.length c, .slice B ys.length e], .slice P ps.length cp] w (RetPB w (mnsR xs ys ps) (mnsOk xs ys ps)) := by
  obtain ⟨r1, q1⟩ : ∃ r, (good xs ys) = r := ⟨_, rfl⟩
  cases r1
  case false =>
    have hO : mnsOk xs ys ps = false := by unfold mnsOk ; simp [q1]
    have hV_mnsR := mnsR_no hO
    rw [hV_mnsR]
    (try rw [hO])
    clear hO hV_mnsR
    have HG1 := Lib.hid (fun W (h : IntS W A xs) (k : IntS W B ys) => isTree_any A B c e xs ys W h k _hx _hy hn hm)
    rw [q1] at HG1
    clear q1 _hx _hy _bp
    go_enter Try.func61, Try.ntmps61
    go_wp2_with fail
    refine (HG1.out _ (h.alloc _) (k.alloc _)).mono ?_
    rintro e1 w1 ⟨rfl, hb⟩
    have hx0 : w1.cell? ⟨w.heap.size, 0, none⟩ = some (.slice A xs.length c) := keep_cell hb (by simp)
    have hx1 : w1.cell? ⟨w.heap.size, 1, none⟩ = some (.slice B ys.length e) := keep_cell hb (by simp)
    have hw : Below w.heap.size w w1 := below_alloc (hb)
    clear hb
    go_wp2
    go_ret2
    exact ⟨none, 0, rfl, .inl ⟨rfl, rfl⟩, hw⟩
  case true =>
    obtain ⟨r2, q2⟩ : ∃ r, (payB xs ps) = r := ⟨_, rfl⟩
    cases r2
    case false =>
      have hO : mnsOk xs ys ps = false := by unfold mnsOk ; simp [q1, q2]
      have hV_mnsR := mnsR_no hO
      rw [hV_mnsR]
      (try rw [hO])
      clear hO hV_mnsR
      have HG1 := Lib.hid (fun W (h : IntS W A xs) (k : IntS W B ys) => isTree_any A B c e xs ys W h k _hx _hy hn hm)
      rw [q1] at HG1
      have HG2 := Lib.hid (fun W (h : IntS W A xs) (zp : IntS W P ps) => arePays_good q1 A B P c ys.length e cp ps W h zp lp)
      rw [q2] at HG2
      clear q1 q2 _hx _hy _bp
      go_enter Try.func61, Try.ntmps61
      go_wp2_with fail
      refine (HG1.out _ (h.alloc _) (k.alloc _)).mono ?_
      rintro e1 w1 ⟨rfl, hb⟩
      have hx0 : w1.cell? ⟨w.heap.size, 0, none⟩ = some (.slice A xs.length c) := keep_cell hb (by simp)
      have hx1 : w1.cell? ⟨w.heap.size, 1, none⟩ = some (.slice B ys.length e) := keep_cell hb (by simp)
      have hw : Below w.heap.size w w1 := below_alloc (hb)
      clear hb
      go_wp2_with fail
      refine (HG2.out _ (h.below hw) (zp.below hw)).mono ?_
      rintro e1 w2 ⟨rfl, hb⟩
      replace hx0 := keep_cell hb hx0
      replace hx1 := keep_cell hb hx1
      replace hw := keep_below hb hw
      clear hb
      go_wp2
      go_ret2
      exact ⟨none, 0, rfl, .inl ⟨rfl, rfl⟩, hw⟩
    case true =>
      have hO : mnsOk xs ys ps = true := by unfold mnsOk ; simp [q1, q2]
      have hV_mnsR := mnsR_yes hO
      rw [hV_mnsR]
      (try rw [hO])
      clear hO hV_mnsR
      have HG1 := Lib.hid (fun W (h : IntS W A xs) (k : IntS W B ys) => isTree_any A B c e xs ys W h k _hx _hy hn hm)
      rw [q1] at HG1
      have HG2 := Lib.hid (fun W (h : IntS W A xs) (zp : IntS W P ps) => arePays_good q1 A B P c ys.length e cp ps W h zp lp)
      rw [q2] at HG2
      have HD := Lib.hid (fun W (h : IntS W A xs) (k : IntS W B ys) (zp : IntS W P ps) => means_good q1 A B P c e cp ps W h k zp q2)
      generalize mnsK xs ys ps xs.length = L at *
      clear q1 q2 _hx _hy _bp
      go_enter Try.func61, Try.ntmps61
      go_wp2_with fail
      refine (HG1.out _ (h.alloc _) (k.alloc _)).mono ?_
      rintro e1 w1 ⟨rfl, hb⟩
      have hx0 : w1.cell? ⟨w.heap.size, 0, none⟩ = some (.slice A xs.length c) := keep_cell hb (by simp)
      have hx1 : w1.cell? ⟨w.heap.size, 1, none⟩ = some (.slice B ys.length e) := keep_cell hb (by simp)
      have hw : Below w.heap.size w w1 := below_alloc (hb)
      clear hb
      go_wp2_with fail
      refine (HG2.out _ (h.below hw) (zp.below hw)).mono ?_
      rintro e1 w2 ⟨rfl, hb⟩
      replace hx0 := keep_cell hb hx0
      replace hx1 := keep_cell hb hx1
      replace hw := keep_below hb hw
      clear hb
      go_wp2_with fail
      refine (HD.out _ (h.below hw) (k.below hw) (zp.below hw)).mono ?_
      rintro e1 w9 ⟨A1, c1, rfl, ho, hb1⟩
      go_wp2
      go_ret2
      exact ⟨A1, c1, rfl, ho.mono hw.size, keep_below hb1 hw⟩
end Go.Proofs.Ytombfbmcplefgaa
/- Plain: a root's sum as the sum over the ends; events and the ends beside them. -/
namespace Go.Proofs.Ytombfbmcplefgaa

def rsum (f : Nat → Int) : Nat → Int
  | 0 => 0
  | k + 1 => rsum f k + f k
theorem rsum_congr {f h : Nat → Int} {k : Nat} (e : ∀ j, j < k → f j = h j) : rsum f k = rsum h k := by
  induction k with
  | zero => rfl
  | succ k ih => rw [rsum, rsum, ih (fun j hj => e j (by omega)), e k (by omega)]
theorem rsum_list (f : Int → Int) (L : List Int) : ∀ k, k ≤ L.length → rsum (fun j => f (nth L j)) k = lsum f (L.take k)
  | 0, _ => by simp [rsum, lsum]
  | k + 1, h => by rw [rsum, rsum_list f L k (by omega), lsum_take f (by omega)]
theorem rsum_all (f : Int → Int) (L : List Int) : rsum (fun j => f (nth L j)) L.length = lsum f L := by rw [rsum_list f L _ (Nat.le_refl _), List.take_length]
theorem sumW_rsum (ys zs : List Int) (k : Nat) : sumW ys zs k = rsum (fun j => nth ys (nth zs j).toNat) k := by
  induction k with
  | zero => rfl
  | succ k ih => rw [sumW, rsum, ih]
theorem heavy_lsum (ys zs : List Int) : heavy ys zs = lsum (fun v => nth ys v.toNat) zs := by
  unfold heavy; rw [sumW_rsum]; exact rsum_all (fun v => nth ys v.toNat) zs
theorem lsum_filter (f : Int → Int) (p : Int → Bool) (L : List Int) : lsum f (L.filter p) + lsum f (L.filter fun v => !p v) = lsum f L := by
  induction L with
  | nil => simp [lsum]
  | cons a L ih =>
    cases h : p a
    · simp [h, lsum]; omega
    · simp [h, lsum]; omega
theorem lsum_pick (f : Int → Int) (p : Int → Bool) (L : List Int) : lsum (fun v => f v * (if p v then 1 else 0)) L = lsum f (L.filter p) := by
  induction L with
  | nil => simp [lsum]
  | cons a L ih =>
    cases h : p a
    · simp [h, lsum, ih]
    · simp [h, lsum, ih]
theorem asc_ends (xs : List Int) : Asc (endsL xs) := asc_pick _ _
theorem ends_lt {xs : List Int} {i j : Nat} (h : i < j) (hj : j < (endsL xs).length) : nth (endsL xs) i < nth (endsL xs) j := asc_lt (asc_pick (noKid xs xs.length) xs.length) h hj
theorem spr_zero (n : Nat) (ys E vs : List Int) (p : Nat) : ∀ k, (∀ j, j < k → (nth E j).toNat ≠ p) → nth (sprL n ys E vs k) p = 0
  | 0, _ => by rw [sprL, nth_zero]
  | k + 1, h => by
    rw [sprL]
    by_cases hp : (nth E k).toNat < (sprL n ys E vs k).length
    · rw [nth_set _ _ _ _ hp, if_neg (fun e => h k (by omega) e.symm)]
      exact spr_zero n ys E vs p k fun j hj => h j (by omega)
    · rw [List.set_eq_of_length_le (by omega)]
      exact spr_zero n ys E vs p k fun j hj => h j (by omega)
theorem tot_root {xs ys : List Int} (hg : good xs ys = true) (vs : List Int) : nth (totL xs ys vs) 0 = rsum (fun j => nth ys (nth (endsL xs) j).toNat * nth vs j) (endsL xs).length := by
  have hl := good_len hg
  unfold totL
  rw [gat_root (xs.length - 1) (good_up hg) (by rw [sprL_len]; omega), show xs.length - 1 + 1 = xs.length from by omega]
  have key : ∀ k, k ≤ (endsL xs).length → isum (sprL xs.length ys (endsL xs) vs k) xs.length = rsum (fun j => nth ys (nth (endsL xs) j).toNat * nth vs j) k := by
    intro k
    induction k with
    | zero =>
      intro _
      rw [sprL, rsum]
      have : ∀ m, isum (List.replicate xs.length 0) m = 0 := by
        intro m
        induction m with
        | zero => rfl
        | succ m ih => rw [isum, ih, nth_zero]; rfl
      exact this _
    | succ k ih =>
      intro hk
      obtain ⟨y, hy, hyn, _⟩ := ends_mem (show k < (endsL xs).length by omega)
      have h1 := isum_set (L := sprL xs.length ys (endsL xs) vs k) (p := (nth (endsL xs) k).toNat) (nth ys (nth (endsL xs) k).toNat * nth vs k) (by rw [sprL_len, hy]; exact hyn) xs.length (by rw [hy]; exact hyn)
      have h2 := spr_zero xs.length ys (endsL xs) vs (nth (endsL xs) k).toNat k fun j hj => by
        obtain ⟨z, hz, _, _⟩ := ends_mem (show j < (endsL xs).length by omega)
        have := ends_lt hj (show k < (endsL xs).length by omega)
        omega
      rw [sprL, rsum, ← ih (by omega)]
      omega
  exact key _ (Nat.le_refl _)
theorem pick_isum {ys : List Int} (f : Nat → Bool) : ∀ k, (∀ x, x < k → f x = false → nth ys x = 0) → lsum (fun v => nth ys v.toNat) (pick f k) = isum ys k
  | 0, _ => by simp [pick, lsum, isum]
  | k + 1, h => by
    have ih := pick_isum f k fun x hx => h x (by omega)
    cases hk : f k
    · rw [pick_no hk, isum, ih, h k (by omega) hk]; omega
    · rw [pick_yes hk, lsum_app, isum, ih]; simp [lsum]
theorem root_heavy {xs ys : List Int} (hg : good xs ys = true) : nth (sumsL xs ys) 0 = heavy ys (endsL xs) := by
  have hl := good_len hg
  unfold sumsL
  rw [gat_root (xs.length - 1) (good_up hg) (by omega), show xs.length - 1 + 1 = xs.length from by omega, heavy_lsum]
  refine (pick_isum (noKid xs xs.length) xs.length fun x hx hk => ?_).symm
  have h1 := wt_end hg hx
  rw [hk] at h1
  have := of_decide_eq_false h1
  have := good_wt hg x
  omega
theorem root_rsum {xs ys : List Int} (hg : good xs ys = true) : nth (sumsL xs ys) 0 = rsum (fun j => nth ys (nth (endsL xs) j).toNat) (endsL xs).length := by
  rw [root_heavy hg]; unfold heavy; exact sumW_rsum _ _ _
/-- An event's numbers are ends. -/
theorem ev_sub {xs ps : List Int} (h : isEv xs ps = true) {v : Int} (hv : v ∈ ps) : v ∈ endsL xs := by
  obtain ⟨j, hj, rfl⟩ := mem_nth hv
  obtain ⟨h1, h2⟩ := evIn_iff.1 (Bool.and_eq_true_iff.1 h).1 j hj
  obtain ⟨q, hq, hqn⟩ := ev_node h j hj
  rw [hq] at h2 ⊢
  exact mem_pick.2 ⟨q, rfl, hqn, by simpa using h2⟩
theorem ev_asc {xs ps : List Int} (h : isEv xs ps = true) : Asc ps := asc_rise.1 (Bool.and_eq_true_iff.1 h).2
theorem ev_both {xs ps : List Int} (h : isEv xs ps = true) : bothL (endsL xs) ps = ps :=
  asc_ext (asc_both (asc_ends xs) ps) (ev_asc h) fun _ => ⟨fun hv => (both_mem.1 hv).2, fun hv => both_mem.2 ⟨ev_sub h hv, hv⟩⟩
theorem sub_ev {xs ps : List Int} (ha : Asc ps) (h : ∀ v, v ∈ ps → v ∈ endsL xs) : isEv xs ps = true := by
  refine Bool.and_eq_true_iff.2 ⟨evIn_iff.2 fun j hj => ?_, asc_rise.2 ha⟩
  obtain ⟨q, hq, hqn, hk⟩ := mem_pick.1 (h _ (nth_mem hj))
  rw [hq]
  refine ⟨decide_eq_true ⟨by omega, by omega⟩, by simpa using hk⟩
theorem oth_all (xs ps : List Int) : othL xs ps = (endsL xs).filter fun v => !hasB ps v := by unfold othL; exact filK_all _ _
theorem oth_ev (xs ps : List Int) : isEv xs (othL xs ps) = true := by
  rw [oth_all]
  exact sub_ev (List.Pairwise.filter _ (asc_ends xs)) fun v hv => (List.mem_filter.1 hv).1
theorem both_ev {xs ps : List Int} (h : isEv xs ps = true) (qs : List Int) : isEv xs (bothL ps qs) = true :=
  sub_ev (asc_both (ev_asc h) qs) fun _ hv => ev_sub h (both_mem.1 hv).1
theorem heavy_oth {xs ys ps : List Int} (h : isEv xs ps = true) : heavy ys ps + heavy ys (othL xs ps) = heavy ys (endsL xs) := by
  have h1 := lsum_filter (fun v => nth ys v.toNat) (hasB ps) (endsL xs)
  rw [heavy_lsum, heavy_lsum, heavy_lsum, oth_all, ← h1]
  have h2 : (endsL xs).filter (hasB ps) = ps := ev_both h
  rw [h2]
theorem heavy_oth_both {xs ys ps qs : List Int} (h : isEv xs ps = true) (k : isEv xs qs = true) : heavy ys (bothL ps qs) + heavy ys (bothL (othL xs ps) qs) = heavy ys qs := by
  have h1 := lsum_filter (fun v => nth ys v.toNat) (hasB ps) qs
  have h2 : qs.filter (hasB ps) = bothL ps qs := both_comm (ev_asc k) (ev_asc h)
  have h3 : qs.filter (fun v => !hasB ps v) = bothL (othL xs ps) qs := by
    rw [oth_all]
    refine asc_ext (List.Pairwise.filter _ (ev_asc k)) (asc_both (List.Pairwise.filter _ (asc_ends xs)) qs) fun v => ?_
    rw [both_mem, List.mem_filter, List.mem_filter]
    exact ⟨fun hv => ⟨⟨ev_sub k hv.1, hv.2⟩, hv.1⟩, fun hv => ⟨hv.2, hv.1.2⟩⟩
  rw [heavy_lsum, heavy_lsum, heavy_lsum, ← h1, h2, h3]
theorem ind_len (xs ps : List Int) : (indcL xs ps).length = (endsL xs).length := by unfold indcL; exact mapI_len _ _ (Nat.le_refl _)
theorem ind_nth {xs ps : List Int} {j : Nat} (hj : j < (endsL xs).length) : nth (indcL xs ps) j = indE ps (nth (endsL xs) j) := by unfold indcL; exact mapI_nth _ _ hj
theorem ind_pay (xs ps : List Int) : payB xs (indcL xs ps) = true := by
  unfold payB
  rw [Bool.and_eq_true]
  refine ⟨decide_eq_true (ind_len xs ps), allIn_yes fun j hj => ?_⟩
  rw [ind_len] at hj
  rw [ind_nth hj]; unfold indE; split <;> omega
theorem ind_tot {xs ys ps : List Int} (hg : good xs ys = true) (h : isEv xs ps = true) : nth (totL xs ys (indcL xs ps)) 0 = heavy ys ps := by
  rw [tot_root hg, rsum_congr (h := fun j => (fun v => nth ys v.toNat * indE ps v) (nth (endsL xs) j)) (fun j hj => by rw [ind_nth hj]), rsum_all (fun v => nth ys v.toNat * indE ps v), heavy_lsum]
  have h1 := lsum_pick (fun v => nth ys v.toNat) (hasB ps) (endsL xs)
  have h2 : (endsL xs).filter (hasB ps) = ps := ev_both h
  rw [h2] at h1
  exact h1
end Go.Proofs.Ytombfbmcplefgaa
/- Plain: what the law of means leans on. -/
namespace Go.Proofs.Ytombfbmcplefgaa

theorem low_cross (a b : Int) : lowX a b * b = a * lowY a b := by
  obtain ⟨h1, h2⟩ := low_mul a b
  have e : lowX a b * (lowD a b * lowY a b) = lowD a b * lowX a b * lowY a b := by
    rw [← Int.mul_assoc, Int.mul_comm (lowX a b)]
  rw [h2, h1] at e; exact e
theorem spr_nil {n : Nat} {ys E vs : List Int} {x : Nat} (h : nth ys x = 0) : ∀ k, nth (sprL n ys E vs k) x = 0
  | 0 => by rw [sprL, nth_zero]
  | k + 1 => by
    rw [sprL]
    by_cases hp : (nth E k).toNat < (sprL n ys E vs k).length
    · rw [nth_set _ _ _ _ hp]
      split
      · rename_i e; rw [← e, h, Int.zero_mul]
      · exact spr_nil h k
    · rw [List.set_eq_of_length_le (by omega)]; exact spr_nil h k
theorem tot_inner {xs ys : List Int} (hg : good xs ys = true) (vs : List Int) {x : Nat} (h0 : nth ys x = 0) : nth (totL xs ys vs) x = psum xs (totL xs ys vs) x (xs.length - 1) := by
  have hl := good_len hg
  have h1 := gat_node (xs.length - 1) (good_up hg) (L := sprL xs.length ys (endsL xs) vs (endsL xs).length) (by rw [sprL_len]; omega) x
  rw [spr_nil h0, Int.zero_add] at h1
  exact h1
theorem psum_start {xs ys : List Int} (hg : good xs ys = true) (R : List Int) {x : Nat} (hx : x < xs.length) : psum xs R x x = 0 :=
  psum_zero fun y h1 h2 => by obtain ⟨p, hp, hpy⟩ := good_upL hg y h1 (by omega); omega
theorem psum_at {xs R : List Int} {x j : Nat} (h : 1 ≤ j) : psum xs R x j = psum xs R x (j - 1) + if nth xs j = (x : Int) then nth R j else 0 := by
  obtain ⟨m, rfl⟩ : ∃ m, j = m + 1 := ⟨j - 1, by omega⟩
  rfl
/-- A fraction in lowest terms that is Z over S. -/
def Part (p q S Z : Int) : Prop := isFrac p q = true ∧ p * S = q * Z
theorem part_zero (S : Int) : Part 0 1 S 0 := ⟨by decide, by simp⟩
theorem part_step {p q u v S Z T : Int} (h : Part p q S Z) (hu : isFrac u v = true) (h2 : u * S = v * T) (ok : addOk p q u v = true) : Part (addN p q u v) (addM p q u v) S (Z + T) := by
  obtain ⟨hp, h1⟩ := h
  obtain ⟨_, _, eN, eM, hS⟩ := fr_parts ok
  refine ⟨hS, ?_⟩
  have hb := (frac_ne hp hu).1
  have hc := low_cross (p * v + u * q) (q * v)
  rw [← eN, ← eM] at hc
  generalize addN p q u v = x at *
  generalize addM p q u v = y at *
  have key : q * v * (x * S) = q * v * (y * (Z + T)) := by
    have e1 : q * v * (x * S) = x * (q * v) * S := by simp only [Int.mul_comm, Int.mul_left_comm]
    have e2 : (p * v + u * q) * y * S = y * v * (p * S) + y * q * (u * S) := by simp only [Int.mul_add, Int.mul_comm, Int.mul_left_comm]
    rw [e1, hc, e2, h1, h2]
    simp only [Int.mul_add, Int.mul_comm, Int.mul_left_comm]
  exact Int.eq_of_mul_eq_mul_left (by omega) key
theorem part_end {p q S T : Int} (h : Part p q S T) (hS : 1 ≤ S) : lowX T S = p ∧ lowY T S = q := by
  obtain ⟨h1, h2⟩ := h
  obtain ⟨_, _, h3, _, h5⟩ := of_decide_eq_true h1
  exact low_unique (by omega) h3 h5 (by rw [h2, Int.mul_comm])
theorem fo_part {T s S : Int} (hT : -479520 ≤ T ∧ T ≤ 479520) (hs : 1 ≤ s ∧ s ≤ 480) (hS : 1 ≤ S ∧ S ≤ 480) :
    (-479520 ≤ lowX T s ∧ lowX T s ≤ 479520) ∧ (1 ≤ lowY T s ∧ lowY T s ≤ 480) ∧ (-1000000000 ≤ lowX T s * s ∧ lowX T s * s ≤ 1000000000) ∧ (1 ≤ lowY T s * S ∧ lowY T s * S ≤ 1000000) ∧ foOk (lowX T s * s) (lowY T s * S) = true ∧ isFrac (foN (lowX T s * s) (lowY T s * S)) (foM (lowX T s * s) (lowY T s * S)) = true ∧ foN (lowX T s * s) (lowY T s * S) * S = foM (lowX T s * s) (lowY T s * S) * T := by
  obtain ⟨h1, h2, h3⟩ := low_bd (a := T) (b := s) (A := 479520) (B := 480) (by omega) hT hs
  have hc := low_cross T s
  generalize lowX T s = N at *
  generalize lowY T s = D at *
  have n1 : -(479520 * 480) ≤ N * s ∧ N * s ≤ 479520 * 480 := mul_bd (A := 479520) (D := 480) (by omega) (by omega)
  have d1 : 1 ≤ D * S := by have := Int.mul_le_mul h2 hS.1 (by omega) (by omega); omega
  have d2 : -(480 * 480) ≤ D * S ∧ D * S ≤ 480 * 480 := mul_bd (A := 480) (D := 480) (by omega) (by omega)
  have hin : foIn (N * s) (D * S) := ⟨by omega, by omega, by omega⟩
  have hl := low_small (a := N * s) (b := D * S) (by omega) (by omega)
  have hok : foOk (N * s) (D * S) = true := by unfold foOk; rw [decide_eq_true hin, hl.1]; rfl
  refine ⟨h1, ⟨h2, h3⟩, by omega, by omega, hok, ?_⟩
  have eN : foN (N * s) (D * S) = lowX (N * s) (D * S) := by unfold foN; rw [if_pos hok]
  have eM : foM (N * s) (D * S) = lowY (N * s) (D * S) := by unfold foM; rw [if_pos hok]
  rw [eN, eM]
  refine ⟨low_isFrac (by omega) (by omega), ?_⟩
  have hx := low_cross (N * s) (D * S)
  generalize lowX (N * s) (D * S) = u at *
  generalize lowY (N * s) (D * S) = v at *
  have key : D * (u * S) = D * (v * T) := by
    have e1 : D * (u * S) = u * (D * S) := by simp only [Int.mul_comm, Int.mul_left_comm]
    rw [e1, hx, hc]
    simp only [Int.mul_comm, Int.mul_left_comm]
  exact Int.eq_of_mul_eq_mul_left (by omega) key
theorem quad_pos (w v : Nat → Int) (hw : ∀ j, 0 ≤ w j) (z : Int) : ∀ k, 0 ≤ rsum (fun j => w j * (v j * v j)) k + rsum w k * (z * z) - rsum (fun j => w j * v j) k * z - rsum (fun j => w j * v j) k * z
  | 0 => by simp [rsum]
  | k + 1 => by
    have ih := quad_pos w v hw z k
    have h1 : 0 ≤ w k * ((v k - z) * (v k - z)) := Int.mul_nonneg (hw k) (by
      rcases Int.le_total 0 (v k - z) with h | h
      · exact Int.mul_nonneg h h
      · exact Int.mul_nonneg_of_nonpos_of_nonpos h h)
    simp only [rsum]
    generalize rsum (fun j => w j * (v j * v j)) k = A at *
    generalize rsum w k = B at *
    generalize rsum (fun j => w j * v j) k = C at *
    generalize w k = a at *
    generalize v k = b at *
    simp only [Int.mul_add, Int.mul_sub, Int.mul_comm, Int.mul_left_comm] at *
    omega
theorem cauchy (w v : Nat → Int) (hw : ∀ j, 0 ≤ w j) : ∀ k, 0 ≤ rsum (fun j => w j * (v j * v j)) k * rsum w k - rsum (fun j => w j * v j) k * rsum (fun j => w j * v j) k
  | 0 => by simp [rsum]
  | k + 1 => by
    have ih := cauchy w v hw k
    have h1 := Int.mul_nonneg (hw k) (quad_pos w v hw (v k) k)
    simp only [rsum]
    generalize rsum (fun j => w j * (v j * v j)) k = A at *
    generalize rsum w k = B at *
    generalize rsum (fun j => w j * v j) k = C at *
    generalize w k = a at *
    generalize v k = b at *
    simp only [Int.mul_add, Int.mul_sub, Int.mul_comm, Int.mul_left_comm] at *
    omega
theorem prd_nth (ps qs : List Int) {k j : Nat} (h : j < k) : nth (prdL ps qs k) j = nth ps j * nth qs j := by simp [prdL, nth, List.getD, h]
theorem var_pos {xs ys ps : List Int} (hg : good xs ys = true) (hp : payB xs ps = true) : 0 ≤ covA xs ys ps ps := by
  have h := cauchy (fun j => nth ys (nth (endsL xs) j).toNat) (fun j => nth ps j) (fun j => (good_wt hg _).1) (endsL xs).length
  have hl := (pay_iff hp).1
  unfold covA
  rw [tot_root hg, tot_root hg, root_rsum hg, rsum_congr (f := fun j => nth ys (nth (endsL xs) j).toNat * nth (prdL ps ps ps.length) j) (h := fun j => nth ys (nth (endsL xs) j).toNat * (nth ps j * nth ps j)) (fun j hj => by rw [prd_nth ps ps (by omega)])]
  exact h
theorem lowX_pos {a b : Int} (ha : 0 ≤ a) (hb : 1 ≤ b) : 0 ≤ lowX a b := by
  unfold lowX; rw [lowD_of_pos a b (by omega)]; exact Int.tdiv_nonneg ha (by omega)
theorem var_num {xs ys ps : List Int} : 0 ≤ covN xs ys ps ps := by
  unfold covN
  split
  · rename_i h
    unfold covOk at h
    simp only [Bool.and_eq_true] at h
    unfold lowN
    split
    · have h1 := sums_root h.1.1
      have h2 := Int.mul_le_mul h1 h1 (by omega) (by omega)
      exact lowX_pos (var_pos h.1.1 h.1.2) (by unfold covB; omega)
    · exact Int.le_refl _
  · exact Int.le_refl _
theorem cov_turn (xs ys ps qs : List Int) : covN xs ys qs ps = covN xs ys ps qs ∧ covM xs ys qs ps = covM xs ys ps qs ∧ covR xs ys qs ps = covR xs ys ps qs := by
  have h1 : covOk xs ys qs ps = covOk xs ys ps qs := by
    unfold covOk; rw [Bool.and_assoc, Bool.and_assoc, Bool.and_comm (payB xs qs)]
  have h2 : covOk xs ys ps qs = true → covA xs ys qs ps = covA xs ys ps qs := fun h => by
    unfold covOk at h
    simp only [Bool.and_eq_true] at h
    have hl : qs.length = ps.length := (pay_iff h.2).1.trans (pay_iff h.1.2).1.symm
    have hp : prdL qs ps qs.length = prdL ps qs ps.length := by
      unfold prdL; rw [hl]; exact List.map_congr_left fun j _ => Int.mul_comm _ _
    unfold covA; rw [hp, Int.mul_comm (nth (totL xs ys qs) 0)]
  unfold covN covM covR
  rw [h1]
  cases h : covOk xs ys ps qs
  · simp
  · simp [h2 h]
theorem cov_ok {xs ys ps qs : List Int} (h : covR xs ys ps qs = true) : mnsOk xs ys ps = true := by
  unfold covR covOk at h
  simp only [Bool.and_eq_true] at h
  unfold mnsOk; rw [h.1.1.1, h.1.1.2]; rfl
theorem known_cut {xs ys vs : List Int} {d : Int} (h : pcOk xs ys d vs = true) : kaOk xs ys (pcR xs ys d vs) = true ∧ kaR xs ys (pcR xs ys d vs) ≤ d := by
  have h0 := h
  unfold pcOk at h0
  simp only [Bool.and_eq_true] at h0
  obtain ⟨⟨⟨hg, hd⟩, hl⟩, ha⟩ := h0
  have hd0 := of_decide_eq_true hd
  have hv := allIn_nth ha (by omega)
  have hR := pcR_yes h
  have hRl : (pcR xs ys d vs).length = (endsL xs).length := by rw [hR, mapI_len _ _ (Nat.le_refl _)]
  have hRn : ∀ j, j < (endsL xs).length → nth (pcR xs ys d vs) j = nth vs (ovX xs (cutL xs ys d) (nth (endsL xs) j)).toNat := fun j hj => by rw [hR, mapI_nth _ _ hj]; rfl
  have hk : kaOk xs ys (pcR xs ys d vs) = true := by
    unfold kaOk payB
    simp only [Bool.and_eq_true]
    exact ⟨hg, decide_eq_true hRl, allIn_yes fun j hj => by rw [hRn j (by omega)]; exact hv _⟩
  refine ⟨hk, ?_⟩
  rw [kaR_yes hk]
  obtain ⟨n, rfl⟩ := Int.eq_ofNat_of_zero_le hd0
  have hat : kaAt xs ys (pcR xs ys n vs) n = true := by
    unfold kaAt
    refine knB_iff.2 fun i k hi hki e => ?_
    have hol : (ovL xs (cutL xs ys n)).length = (endsL xs).length := by unfold ovL; exact mapI_len _ _ (Nat.le_refl _)
    rw [hol] at hi
    unfold ovL at e
    rw [mapI_nth _ _ hi, mapI_nth _ _ (by omega)] at e
    rw [hRn i hi, hRn k (by omega), e]
  have hinv := least_inv (kaAt xs ys (pcR xs ys n vs)) xs.length
  by_cases hle : leastB (kaAt xs ys (pcR xs ys n vs)) xs.length ≤ n
  · omega
  · have := hinv.2 n (by omega)
    change kaAt xs ys (pcR xs ys (Int.ofNat n) vs) n = false at this
    rw [show (Int.ofNat n) = (n : Int) from rfl, hat] at this
    cases this
theorem mns_len (xs ys ps : List Int) (k : Nat) (h : k < xs.length) : nthp (mnsK xs ys ps xs.length) k = (lowX (nth (totL xs ys ps) k) (nth (sumsL xs ys) k), lowY (nth (totL xs ys ps) k) (nth (sumsL xs ys) k)) := by
  simp [mnsK, nthp, List.getD, h, mnsP]
end Go.Proofs.Ytombfbmcplefgaa
