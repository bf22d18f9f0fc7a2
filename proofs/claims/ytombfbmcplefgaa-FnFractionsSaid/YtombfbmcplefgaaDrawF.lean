/- Contracts: the reference's draws of fractions. -/
import Derived.Test.YtombfbmcplefgaaCurs
import Derived.Test.YtombfbmcplefgaaFrac2
namespace Go.Proofs.Ytombfbmcplefgaa
open Go.ChangeShapes Go.WideShapes Go.ChangeAt Go.RowKit

section
variable {w W W' : World} {g gR n cc m m' : Nat} {C : Option Addr}
theorem CurB.lt (h : CurB W g C n cc m) : g < W.heap.size := by
  obtain ⟨k, sd, h, _⟩ := h
  rcases Nat.lt_or_ge g W.heap.size with hlt | hge
  · exact hlt
  · rw [Array.getElem?_eq_none hge] at h; cases h
theorem CurB.below (h : CurB W g C n cc m) (hb : Below W.heap.size W W') : CurB W' g C n cc m := by
  have hl := h.lt
  obtain ⟨k, sd, h, h2⟩ := h
  exact ⟨k, sd, (hb.block g hl).trans h, h2⟩
theorem CurB.far (h : CurB W g C n cc m) {q : Nat} (hq : g ≠ q) (i : Nat) (v : Value) : CurB (W.setCell ⟨q, i, none⟩ v) g C n cc m := by
  obtain ⟨k, sd, h, h2⟩ := h
  exact ⟨k, sd, (Below.heap_setCell _ _ _ _ hq).trans h, h2⟩
theorem CurB.mono (h : CurB W g C n cc m) (hm : m ≤ m') : CurB W g C n cc m' := by
  obtain ⟨k, sd, h, h1, h2⟩ := h
  exact ⟨k, sd, h, by omega, h2⟩
theorem kept_below (h : KeptBut w W g g) (hb : Below W.heap.size W W') : KeptBut w W' g g :=
  h.trans2 ⟨hb.os, hb.tape, hb.output, hb.size, fun k hk _ _ => hb.block k hk⟩
theorem kept_set (h : KeptBut w W g g) {q : Nat} (hq : w.heap.size ≤ q) (i : Nat) (v : Value) : KeptBut w (W.setCell ⟨q, i, none⟩ v) g g := by
  refine ⟨h.os, h.tape, h.output, by simpa using h.size, fun k hk h1 h2 => ?_⟩
  exact (Below.heap_setCell _ _ _ _ (by show k ≠ q; omega)).trans (h.block k hk h1 h2)
/-- A function that draws, under way: its result lies in block gR. -/
def St (w W : World) (g : Nat) (C : Option Addr) (n cc m gR : Nat) : Prop := CurB W g C n cc m ∧ Byt W C n ∧ KeptBut w W g g ∧ W.heap[gR]? = some (.cells #[.int .i64 0, .int .i64 0] 51 (0, 0))
theorem St.draw (h : St w W g C n cc m gR) (hd : Drew W g C n cc m' W') (hne : ∀ b o, 0 < n → C = some ⟨b, o, none⟩ → b ≠ g) (hg : gR ≠ g) : St w W' g C n cc m' gR := by
  obtain ⟨h1, h2, h3, h4⟩ := h
  have hl : gR < W.heap.size := by
    rcases Nat.lt_or_ge gR W.heap.size with hlt | hge
    · exact hlt
    · rw [Array.getElem?_eq_none hge] at h4; cases h4
  exact ⟨hd.1, h2.kept hd.2 hne, h3.trans2 hd.2, (hd.2.block gR hl hg hg).trans h4⟩
theorem St.below (h : St w W g C n cc m gR) (hb : Below W.heap.size W W') : St w W' g C n cc m gR := by
  obtain ⟨h1, h2, h3, h4⟩ := h
  have hl : gR < W.heap.size := by
    rcases Nat.lt_or_ge gR W.heap.size with hlt | hge
    · exact hlt
    · rw [Array.getElem?_eq_none hge] at h4; cases h4
  exact ⟨h1.below hb, h2.below hb, kept_below h3 hb, (hb.block gR hl).trans h4⟩
theorem St.c0 (h : St w W g C n cc m gR) : W.cell? ⟨gR, 0, none⟩ = some (.int .i64 0) := by rw [cell_of_row _ _ _ _ _ _ h.2.2.2]; rfl
theorem St.c1 (h : St w W g C n cc m gR) : W.cell? ⟨gR, 1, none⟩ = some (.int .i64 0) := by rw [cell_of_row _ _ _ _ _ _ h.2.2.2]; rfl
theorem St.free (h : St w W g C n cc m gR) (j : Nat) : W.frozen? ⟨gR, j, none⟩ = false := frozen_of_row _ _ _ _ _ h.2.2.2
theorem St.done (h : St w W g C n cc m gR) (hm : m ≤ m') (hg : gR ≠ g) (hR : w.heap.size ≤ gR) (a b : Value) : Drew w g C n cc m' ((W.setCell ⟨gR, 0, none⟩ a).setCell ⟨gR, 1, none⟩ b) :=
  ⟨((h.1.mono hm).far (fun e => hg e.symm) 0 a).far (fun e => hg e.symm) 1 b, kept_set (kept_set h.2.2.1 hR 0 a) hR 1 b⟩
end
theorem list_IntS (W : World) (xs : List Int) (h : 1 ≤ xs.length) : IntS (W.alloc (.cells (i64s xs).toArray 3)) (some ⟨W.heap.size, 0, none⟩) xs := (RowX.new W xs rfl).row.ints
set_option maxHeartbeats 4000000 in
set_option maxRecDepth 100000 in
theorem fraction_draw {g n cc m : Nat} {C : Option Addr} (w : World) (h : CurB w g C n cc m) (hB : Byt w C n) (hne : ∀ b o, 0 < n → C = some ⟨b, o, none⟩ → b ≠ g) (hm : m + 20 ≤ 1000000) (hn : n ≤ 1000000) :
    Calls Try.prog 106 #[.pointer (some ⟨g, 0, none⟩)] w fun e w' => ∃ a b : Int, e = .returned (.agg #[.int .i64 a, .int .i64 b]) ∧ Drew w g C n cc (m + 14) w' := by
  have HP := Lib.hid (fun W (q : Int) m' gR (hs : St w W g C n cc m' gR) (a : m' + 1 ≤ 1000000) (b : 1 ≤ q ∧ q ≤ 1000000000) => pick_draw q W hs.1 hs.2.1 hne a hn b)
  have HO := Lib.hid (fun W (q : Int) m' gR (hs : St w W g C n cc m' gR) (a : m' + 1 ≤ 1000000) (b : 1 ≤ q ∧ q ≤ 1000000000) => one_draw q W hs.1 hs.2.1 hne a hn b)
  have HA := Lib.hid (fun W (A : Option Addr) (c : Nat) (xs : List Int) m' gR (hs : St w W g C n cc m' gR) (a : m' + 1 ≤ 1000000) (b : IntS W A xs) (d : ∀ b o, A = some ⟨b, o, none⟩ → b ≠ g) (e : 1 ≤ xs.length ∧ xs.length ≤ 1000) => among_draw A c xs W hs.1 hs.2.1 hne a hn b d e)
  have HD := Lib.hid (fun W W' m' m2 gR (hs : St w W g C n cc m' gR) (hd : Drew W g C n cc m2 W') (a : gR ≠ g) => hs.draw hd hne a)
  have HC := Lib.hid (fun a b W (x : 0 < b) (y : -4000000000000000000 ≤ a ∧ a ≤ 4000000000000000000) (z : b ≤ 4000000000000000000) => l2Cut_any a b W x y z)
  have hgw := h.lt
  have hR : w.heap.size ≠ g := by omega
  have hS0 : St w (w.alloc (.cells #[.int .i64 0, .int .i64 0] 51)) g C n cc m w.heap.size := ⟨h.below ((Below.refl _ _).alloc (Nat.le_refl _) _), hB.below ((Below.refl _ _).alloc (Nat.le_refl _) _), kept_below (KeptBut.refl2 w g) ((Below.refl _ _).alloc (Nat.le_refl _) _), heap_alloc_new w _⟩
  have HL1 : Hid ((i64s ([1000000000, -1000000000, 1000000001, 0, 4] : List Int)).toArray = #[.int .i64 1000000000, .int .i64 (-1000000000), .int .i64 1000000001, .int .i64 0, .int .i64 4]) := rfl
  have HL2 : Hid ((i64s ([1, 1000000, 1000001, 0, -1, 2] : List Int)).toArray = #[.int .i64 1, .int .i64 1000000, .int .i64 1000001, .int .i64 0, .int .i64 (-1), .int .i64 2]) := rfl
  clear h hB hne hn
  go_enter Try.func106, Try.ntmps106
  go_wp2_with fail
  refine (HO.out _ _ _ _ hS0 (by omega) (by omega)).mono ?_
  rintro e1 w1 ⟨r1, rfl, hd1⟩
  have hS1 := HD.out _ _ _ _ _ hS0 hd1 hR
  clear hS0 hd1
  cases r1 with
  | true =>
    have hI1 := list_IntS w1 ([1000000000, -1000000000, 1000000001, 0, 4] : List Int) (by decide)
    have hgl1 := hS1.1.lt
    rw [HL1.out] at hI1
    have hS1a := hS1.below ((Below.refl w1.heap.size w1).alloc (Nat.le_refl _) (.cells #[.int .i64 1000000000, .int .i64 (-1000000000), .int .i64 1000000001, .int .i64 0, .int .i64 4] 3))
    clear hS1
    go_wp2_with fail
    refine (HA.out _ _ 5 ([1000000000, -1000000000, 1000000001, 0, 4] : List Int) _ _ hS1a (by omega) hI1 (fun b o e => by injection e with e; injection e with e; omega) (by decide)).mono ?_
    rintro e1 w2 ⟨j1, _, rfl, hd2⟩
    have hS2 := HD.out _ _ _ _ _ hS1a hd2 hR
    clear hS1a hd2 hI1 hgl1
    generalize nth ([1000000000, -1000000000, 1000000001, 0, 4] : List Int) j1 = a9 at *
    have hI2 := list_IntS w2 ([1, 1000000, 1000001, 0, -1, 2] : List Int) (by decide)
    have hgl2 := hS2.1.lt
    rw [HL2.out] at hI2
    have hS2a := hS2.below ((Below.refl w2.heap.size w2).alloc (Nat.le_refl _) (.cells #[.int .i64 1, .int .i64 1000000, .int .i64 1000001, .int .i64 0, .int .i64 (-1), .int .i64 2] 3))
    clear hS2
    go_wp2_with fail
    refine (HA.out _ _ 6 ([1, 1000000, 1000001, 0, -1, 2] : List Int) _ _ hS2a (by omega) hI2 (fun b o e => by injection e with e; injection e with e; omega) (by decide)).mono ?_
    rintro e1 w3 ⟨j2, _, rfl, hd3⟩
    have hS3 := HD.out _ _ _ _ _ hS2a hd3 hR
    clear hS2a hd3 hI2 hgl2
    generalize nth ([1, 1000000, 1000001, 0, -1, 2] : List Int) j2 = b9 at *
    have hc0 := hS3.c0
    have hc1 := hS3.c1
    have hf0 := hS3.free 0
    have hf1 := hS3.free 1
    have hE := Lib.hid (hS3.done (m' := m + 14) (by omega) hR (Nat.le_refl _) (.int .i64 a9) (.int .i64 b9))
    clear hS3
    go_wp2
    exact bodyPost_ret (v := .agg #[.int .i64 a9, .int .i64 b9]) (by simp (maxDischargeDepth := 9) [results, Try.results106, go_sem, *]) rfl ⟨_, _, rfl, hE.out⟩
  | false =>
    go_wp2_with fail
    refine (HP.out _ _ _ _ hS1 (by omega) (by omega)).mono ?_
    rintro e1 w2 ⟨a9, rfl, ha1, ha2, hd2⟩
    have hS2 := HD.out _ _ _ _ _ hS1 hd2 hR
    clear hS1 hd2
    go_wp2_with fail
    refine (HP.out _ _ _ _ hS2 (by omega) (by omega)).mono ?_
    rintro e1 w3 ⟨b9, rfl, hb1, hb2, hd3⟩
    have hS3 := HD.out _ _ _ _ _ hS2 hd3 hR
    clear hS2 hd3
    have u1 : IntKind.i64.wrap (a9 - 15) = a9 - 15 := IntWalk.i64_in _ (by omega)
    have u2 : IntKind.i64.wrap (1 + b9) = 1 + b9 := IntWalk.i64_in _ (by omega)
    go_wp2_with fail
    refine (HO.out _ _ _ _ hS3 (by omega) (by omega)).mono ?_
    rintro e1 w4 ⟨r2, rfl, hd4⟩
    have hS4 := HD.out _ _ _ _ _ hS3 hd4 hR
    clear hS3 hd4
    cases r2 with
    | true =>
      go_wp2_with fail
      refine (HP.out _ _ _ _ hS4 (by omega) (by omega)).mono ?_
      rintro e1 w5 ⟨x9, rfl, hx1, hx2, hd5⟩
      have hS5 := HD.out _ _ _ _ _ hS4 hd5 hR
      clear hS4 hd5
      have u3 : IntKind.i64.wrap (x9 - 1000000) = x9 - 1000000 := IntWalk.i64_in _ (by omega)
      go_wp2_with fail
      refine (HP.out _ _ _ _ hS5 (by omega) (by omega)).mono ?_
      rintro e1 w6 ⟨y9, rfl, hy1, hy2, hd6⟩
      have hS6 := HD.out _ _ _ _ _ hS5 hd6 hR
      clear hS5 hd6
      have u4 : IntKind.i64.wrap (1 + y9) = 1 + y9 := IntWalk.i64_in _ (by omega)
      obtain ⟨a, ea⟩ : ∃ a, x9 - 1000000 = a := ⟨_, rfl⟩
      obtain ⟨b, eb⟩ : ∃ b, 1 + y9 = b := ⟨_, rfl⟩
      have hb0 : 0 < b := by omega
      have hab : -1000000000 ≤ a ∧ a ≤ 1000000000 ∧ b ≤ 1000000000 := by omega
      have hS := hS6
      clear hS6
      go_wp2_with fail
      refine (HO.out _ _ _ _ hS (by omega) (by omega)).mono ?_
      rintro e1 w7 ⟨r3, rfl, hd7⟩
      have hS7 := HD.out _ _ _ _ _ hS hd7 hR
      clear hS hd7

      clear ea eb
      cases r3 with
      | true =>
        have hc0 := hS7.c0
        have hc1 := hS7.c1
        have hf0 := hS7.free 0
        have hf1 := hS7.free 1
        have hE := Lib.hid (hS7.done (m' := m + 14) (by omega) hR (Nat.le_refl _) (.int .i64 a) (.int .i64 b))
        clear hS7
        go_wp2
        exact bodyPost_ret (v := .agg #[.int .i64 a, .int .i64 b]) (by simp (maxDischargeDepth := 9) [results, Try.results106, go_sem, *]) rfl ⟨_, _, rfl, hE.out⟩
      | false =>
        go_wp2_with fail
        refine (HC.out _ _ _ hb0 (by omega) (by omega)).mono ?_
        rintro e1 w8 ⟨rfl, hb8⟩
        have hS8 := hS7.below hb8
        clear hS7 hb8
        generalize lowX a b = x at *
        generalize lowY a b = y at *
        have hc0 := hS8.c0
        have hc1 := hS8.c1
        have hf0 := hS8.free 0
        have hf1 := hS8.free 1
        have hE := Lib.hid (hS8.done (m' := m + 14) (by omega) hR (Nat.le_refl _) (.int .i64 x) (.int .i64 y))
        clear hS8
        go_wp2
        exact bodyPost_ret (v := .agg #[.int .i64 x, .int .i64 y]) (by simp (maxDischargeDepth := 9) [results, Try.results106, go_sem, *]) rfl ⟨_, _, rfl, hE.out⟩
    | false =>
      obtain ⟨a, ea⟩ : ∃ a, a9 - 15 = a := ⟨_, rfl⟩
      obtain ⟨b, eb⟩ : ∃ b, 1 + b9 = b := ⟨_, rfl⟩
      have hb0 : 0 < b := by omega
      have hab : -1000000000 ≤ a ∧ a ≤ 1000000000 ∧ b ≤ 1000000000 := by omega
      have hS := hS4
      clear hS4
      go_wp2_with fail
      refine (HO.out _ _ _ _ hS (by omega) (by omega)).mono ?_
      rintro e1 w7 ⟨r3, rfl, hd7⟩
      have hS7 := HD.out _ _ _ _ _ hS hd7 hR
      clear hS hd7

      clear ea eb
      cases r3 with
      | true =>
        have hc0 := hS7.c0
        have hc1 := hS7.c1
        have hf0 := hS7.free 0
        have hf1 := hS7.free 1
        have hE := Lib.hid (hS7.done (m' := m + 14) (by omega) hR (Nat.le_refl _) (.int .i64 a) (.int .i64 b))
        clear hS7
        go_wp2
        exact bodyPost_ret (v := .agg #[.int .i64 a, .int .i64 b]) (by simp (maxDischargeDepth := 9) [results, Try.results106, go_sem, *]) rfl ⟨_, _, rfl, hE.out⟩
      | false =>
        go_wp2_with fail
        refine (HC.out _ _ _ hb0 (by omega) (by omega)).mono ?_
        rintro e1 w8 ⟨rfl, hb8⟩
        have hS8 := hS7.below hb8
        clear hS7 hb8
        generalize lowX a b = x at *
        generalize lowY a b = y at *
        have hc0 := hS8.c0
        have hc1 := hS8.c1
        have hf0 := hS8.free 0
        have hf1 := hS8.free 1
        have hE := Lib.hid (hS8.done (m' := m + 14) (by omega) hR (Nat.le_refl _) (.int .i64 x) (.int .i64 y))
        clear hS8
        go_wp2
        exact bodyPost_ret (v := .agg #[.int .i64 x, .int .i64 y]) (by simp (maxDischargeDepth := 9) [results, Try.results106, go_sem, *]) rfl ⟨_, _, rfl, hE.out⟩
end Go.Proofs.Ytombfbmcplefgaa
