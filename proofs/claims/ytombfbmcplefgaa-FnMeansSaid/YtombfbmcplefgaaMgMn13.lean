/- Contracts: the reference's draws of fractions. -/
import Derived.Test.YtombfbmcplefgaaMgMn8
import Derived.Test.YtombfbmcplefgaaMgMn3
namespace Go.Proofs.Ytombfbmcplefgaa
open Go.ChangeShapes Go.WideShapes Go.ChangeAt Go.RowKit

section
variable {w W W' : World} {g gR n cc m m' : Nat} {C : Option Addr}
theorem CurB.lt (h : CurB W g C n cc m) : g < W.heap.size := by
  obtain ⟨k, sd, h, _⟩ := h
  rcases Nat.lt_or_ge g W.heap.size with hlt | hge
  · exact hlt
  · rw [Array.getElem?_eq_none hge] at h; cases h
theorem CurB.below (h : CurB W g C n cc m) (hb : Below W.heap.size W W') : CurB W' g C n cc m := by
  have hl := h.lt
  obtain ⟨k, sd, h, h2⟩ := h
  exact ⟨k, sd, (hb.block g hl).trans h, h2⟩
theorem CurB.far (h : CurB W g C n cc m) {q : Nat} (hq : g ≠ q) (i : Nat) (v : Value) : CurB (W.setCell ⟨q, i, none⟩ v) g C n cc m := by
  obtain ⟨k, sd, h, h2⟩ := h
  exact ⟨k, sd, (Below.heap_setCell _ _ _ _ hq).trans h, h2⟩
theorem CurB.mono (h : CurB W g C n cc m) (hm : m ≤ m') : CurB W g C n cc m' := by
  obtain ⟨k, sd, h, h1, h2⟩ := h
  exact ⟨k, sd, h, by omega, h2⟩
theorem kept_below (h : KeptBut w W g g) (hb : Below W.heap.size W W') : KeptBut w W' g g :=
  h.trans2 ⟨hb.os, hb.tape, hb.output, hb.size, fun k hk _ _ => hb.block k hk⟩
theorem kept_set (h : KeptBut w W g g) {q : Nat} (hq : w.heap.size ≤ q) (i : Nat) (v : Value) : KeptBut w (W.setCell ⟨q, i, none⟩ v) g g := by
  refine ⟨h.os, h.tape, h.output, by simpa using h.size, fun k hk h1 h2 => ?_⟩
  exact (Below.heap_setCell _ _ _ _ (by show k ≠ q; omega)).trans (h.block k hk h1 h2)
/-- A function that draws, under way: its result lies in block gR. -/
def St (w W : World) (g : Nat) (C : Option Addr) (n cc m gR : Nat) : Prop := CurB W g C n cc m ∧ Byt W C n ∧ KeptBut w W g g ∧ W.heap[gR]? = some (.cells #[.int .i64 0, .int .i64 0] 51 (0, 0))
theorem St.draw (h : St w W g C n cc m gR) (hd : Drew W g C n cc m' W') (hne : ∀ b o, 0 < n → C = some ⟨b, o, none⟩ → b ≠ g) (hg : gR ≠ g) : St w W' g C n cc m' gR := by
  obtain ⟨h1, h2, h3, h4⟩ := h
  have hl : gR < W.heap.size := by
    rcases Nat.lt_or_ge gR W.heap.size with hlt | hge
    · exact hlt
    · rw [Array.getElem?_eq_none hge] at h4; cases h4
  exact ⟨hd.1, h2.kept hd.2 hne, h3.trans2 hd.2, (hd.2.block gR hl hg hg).trans h4⟩
theorem St.below (h : St w W g C n cc m gR) (hb : Below W.heap.size W W') : St w W' g C n cc m gR := by
  obtain ⟨h1, h2, h3, h4⟩ := h
  have hl : gR < W.heap.size := by
    rcases Nat.lt_or_ge gR W.heap.size with hlt | hge
    · exact hlt
    · rw [Array.getElem?_eq_none hge] at h4; cases h4
  exact ⟨h1.below hb, h2.below hb, kept_below h3 hb, (hb.block gR hl).trans h4⟩
theorem St.c0 (h : St w W g C n cc m gR) : W.cell? ⟨gR, 0, none⟩ = some (.int .i64 0) := by rw [cell_of_row _ _ _ _ _ _ h.2.2.2]; rfl
theorem St.c1 (h : St w W g C n cc m gR) : W.cell? ⟨gR, 1, none⟩ = some (.int .i64 0) := by rw [cell_of_row _ _ _ _ _ _ h.2.2.2]; rfl
theorem St.free (h : St w W g C n cc m gR) (j : Nat) : W.frozen? ⟨gR, j, none⟩ = false := frozen_of_row _ _ _ _ _ h.2.2.2
theorem St.done (h : St w W g C n cc m gR) (hm : m ≤ m') (hg : gR ≠ g) (hR : w.heap.size ≤ gR) (a b : Value) : Drew w g C n cc m' ((W.setCell ⟨gR, 0, none⟩ a).setCell ⟨gR, 1, none⟩ b) :=
  ⟨((h.1.mono hm).far (fun e => hg e.symm) 0 a).far (fun e => hg e.symm) 1 b, kept_set (kept_set h.2.2.1 hR 0 a) hR 1 b⟩
end
theorem list_IntS (W : World) (xs : List Int) (_h : 1 ≤ xs.length) : IntS (W.alloc (.cells (i64s xs).toArray 3)) (some ⟨W.heap.size, 0, none⟩) xs := (RowX.new W xs rfl).row.ints
set_option maxHeartbeats 4000000 in
set_option maxRecDepth 100000 in
theorem fraction_draw {g n cc m : Nat} {C : Option Addr} (w : World) (h : CurB w g C n cc m) (hB : Byt w C n) (hne : ∀ b o, 0 < n → C = some ⟨b, o, none⟩ → b ≠ g) (hm : m + 20 ≤ 1000000) (hn : n ≤ 1000000) :
    Calls Try.prog 106 #[.pointer (some ⟨g, 0, none⟩)] w fun e w' => ∃ a b : Int, e = .returned (.agg #[.int .i64 a, .int .i64 b]) ∧ Drew w g C n cc (m + 14) w' := by
  have HP := Lib.hid (fun W (q : Int) m' gR (hs : St w W g C n cc m' gR) (a : m' + 1 ≤ 1000000) (b : 1 ≤ q ∧ q ≤ 1000000000) => pick_draw q W hs.1 hs.2.1 hne a hn b)
  have HO := Lib.hid (fun W (q : Int) m' gR (hs : St w W g C n cc m' gR) (a : m' + 1 ≤ 1000000) (b : 1 ≤ q ∧ q ≤ 1000000000) => one_draw q W hs.1 hs.2.1 hne a hn b)
  have HA := Lib.hid (fun W (A : Option Addr) (c : Nat) (xs : List Int) m' gR (hs : St w W g C n cc m' gR) (a : m' + 1 ≤ 1000000) (b : IntS W A xs) (d : ∀ b o, A = some ⟨b, o, none⟩ → b ≠ g) (e : 1 ≤ xs.length ∧ xs.length ≤ 1000) => among_draw A c xs W hs.1 hs.2.1 hne a hn b d e)
  have HD := Lib.hid (fun W W' m' m2 gR (hs : St w W g C n cc m' gR) (hd : Drew W g C n cc m2 W') (a : gR ≠ g) => hs.draw hd hne a)
  have HC := Lib.hid (fun a b W (x : 0 < b) (y : -4000000000000000000 ≤ a ∧ a ≤ 4000000000000000000) (z : b ≤ 4000000000000000000) => l2Cut_any a b W x y z)
  have hgw := h.lt
  have hR : w.heap.size ≠ g := by omega
  have hS0 : St w (w.alloc (.cells #[.int .i64 0, .int .i64 0] 51)) g C n cc m w.heap.size := ⟨h.below ((Below.refl _ _).alloc (Nat.le_refl _) _), hB.below ((Below.refl _ _).alloc (Nat.le_refl _) _), kept_below (KeptBut.refl2 w g) ((Below.refl _ _).alloc (Nat.le_refl _) _), heap_alloc_new w _⟩
  have HL1 : Hid ((i64s ([1000000000, -1000000000, 1000000001, 0, 4] : List Int)).toArray = #[.int .i64 1000000000, .int .i64 (-1000000000), .int .i64 1000000001, .int .i64 0, .int .i64 4]) := rfl
  have HL2 : Hid ((i64s ([1, 1000000, 1000001, 0, -1, 2] : List Int)).toArray = #[.int .i64 1, .int .i64 1000000, .int .i64 1000001, .int .i64 0, .int .i64 (-1), .int .i64 2]) := rfl
  clear h hB hne hn
  go_enter Try.func106, Try.ntmps106
  go_wp2_with fail
  refine (HO.out _ _ _ _ hS0 (by omega) (by omega)).mono ?_
  rintro e1 w1 ⟨r1, rfl, hd1⟩
  have hS1 := HD.out _ _ _ _ _ hS0 hd1 hR
  clear hS0 hd1
  cases r1 with
  | true =>
    have hI1 := list_IntS w1 ([1000000000, -1000000000, 1000000001, 0, 4] : List Int) (by decide)
    have hgl1 := hS1.1.lt
    rw [HL1.out] at hI1
    have hS1a := hS1.below ((Below.refl w1.heap.size w1).alloc (Nat.le_refl _) (.cells #[.int .i64 1000000000, .int .i64 (-1000000000), .int .i64 1000000001, .int .i64 0, .int .i64 4] 3))
    clear hS1
    go_wp2_with fail
    refine (HA.out _ _ 5 ([1000000000, -1000000000, 1000000001, 0, 4] : List Int) _ _ hS1a (by omega) hI1 (fun b o e => by injection e with e; injection e with e; omega) (by decide)).mono ?_
    rintro e1 w2 ⟨j1, _, rfl, hd2⟩
    have hS2 := HD.out _ _ _ _ _ hS1a hd2 hR
    clear hS1a hd2 hI1 hgl1
    generalize nth ([1000000000, -1000000000, 1000000001, 0, 4] : List Int) j1 = a9 at *
    have hI2 := list_IntS w2 ([1, 1000000, 1000001, 0, -1, 2] : List Int) (by decide)
    have hgl2 := hS2.1.lt
    rw [HL2.out] at hI2
    have hS2a := hS2.below ((Below.refl w2.heap.size w2).alloc (Nat.le_refl _) (.cells #[.int .i64 1, .int .i64 1000000, .int .i64 1000001, .int .i64 0, .int .i64 (-1), .int .i64 2] 3))
    clear hS2
    go_wp2_with fail
    refine (HA.out _ _ 6 ([1, 1000000, 1000001, 0, -1, 2] : List Int) _ _ hS2a (by omega) hI2 (fun b o e => by injection e with e; injection e with e; omega) (by decide)).mono ?_
    rintro e1 w3 ⟨j2, _, rfl, hd3⟩
    have hS3 := HD.out _ _ _ _ _ hS2a hd3 hR
    clear hS2a hd3 hI2 hgl2
    generalize nth ([1, 1000000, 1000001, 0, -1, 2] : List Int) j2 = b9 at *
    have hc0 := hS3.c0
    have hc1 := hS3.c1
    have hf0 := hS3.free 0
    have hf1 := hS3.free 1
    have hE := Lib.hid (hS3.done (m' := m + 14) (by omega) hR (Nat.le_refl _) (.int .i64 a9) (.int .i64 b9))
    clear hS3
    go_wp2
    exact bodyPost_ret (v := .agg #[.int .i64 a9, .int .i64 b9]) (by simp (maxDischargeDepth := 9) [results, Try.results106, go_sem, *]) rfl ⟨_, _, rfl, hE.out⟩
  | false =>
    go_wp2_with fail
    refine (HP.out _ _ _ _ hS1 (by omega) (by omega)).mono ?_
    rintro e1 w2 ⟨a9, rfl, ha1, ha2, hd2⟩
    have hS2 := HD.out _ _ _ _ _ hS1 hd2 hR
    clear hS1 hd2
    go_wp2_with fail
    refine (HP.out _ _ _ _ hS2 (by omega) (by omega)).mono ?_
    rintro e1 w3 ⟨b9, rfl, hb1, hb2, hd3⟩
    have hS3 := HD.out _ _ _ _ _ hS2 hd3 hR
    clear hS2 hd3
    have u1 : IntKind.i64.wrap (a9 - 15) = a9 - 15 := IntWalk.i64_in _ (by omega)
    have u2 : IntKind.i64.wrap (1 + b9) = 1 + b9 := IntWalk.i64_in _ (by omega)
    go_wp2_with fail
    refine (HO.out _ _ _ _ hS3 (by omega) (by omega)).mono ?_
    rintro e1 w4 ⟨r2, rfl, hd4⟩
    have hS4 := HD.out _ _ _ _ _ hS3 hd4 hR
    clear hS3 hd4
    cases r2 with
    | true =>
      go_wp2_with fail
      refine (HP.out _ _ _ _ hS4 (by omega) (by omega)).mono ?_
      rintro e1 w5 ⟨x9, rfl, hx1, hx2, hd5⟩
      have hS5 := HD.out _ _ _ _ _ hS4 hd5 hR
      clear hS4 hd5
      have u3 : IntKind.i64.wrap (x9 - 1000000) = x9 - 1000000 := IntWalk.i64_in _ (by omega)
      go_wp2_with fail
      refine (HP.out _ _ _ _ hS5 (by omega) (by omega)).mono ?_
      rintro e1 w6 ⟨y9, rfl, hy1, hy2, hd6⟩
      have hS6 := HD.out _ _ _ _ _ hS5 hd6 hR
      clear hS5 hd6
      have u4 : IntKind.i64.wrap (1 + y9) = 1 + y9 := IntWalk.i64_in _ (by omega)
      obtain ⟨a, ea⟩ : ∃ a, x9 - 1000000 = a := ⟨_, rfl⟩
      obtain ⟨b, eb⟩ : ∃ b, 1 + y9 = b := ⟨_, rfl⟩
      have hb0 : 0 < b := by omega
      have hab : -1000000000 ≤ a ∧ a ≤ 1000000000 ∧ b ≤ 1000000000 := by omega
      have hS := hS6
      clear hS6
      go_wp2_with fail
      refine (HO.out _ _ _ _ hS (by omega) (by omega)).mono ?_
      rintro e1 w7 ⟨r3, rfl, hd7⟩
      have hS7 := HD.out _ _ _ _ _ hS hd7 hR
      clear hS hd7

      clear ea eb
      cases r3 with
      | true =>
        have hc0 := hS7.c0
        have hc1 := hS7.c1
        have hf0 := hS7.free 0
        have hf1 := hS7.free 1
        have hE := Lib.hid (hS7.done (m' := m + 14) (by omega) hR (Nat.le_refl _) (.int .i64 a) (.int .i64 b))
        clear hS7
        go_wp2
        exact bodyPost_ret (v := .agg #[.int .i64 a, .int .i64 b]) (by simp (maxDischargeDepth := 9) [results, Try.results106, go_sem, *]) rfl ⟨_, _, rfl, hE.out⟩
      | false =>
        go_wp2_with fail
        refine (HC.out _ _ _ hb0 (by omega) (by omega)).mono ?_
        rintro e1 w8 ⟨rfl, hb8⟩
        have hS8 := hS7.below hb8
        clear hS7 hb8
        generalize lowX a b = x at *
        generalize lowY a b = y at *
        have hc0 := hS8.c0
        have hc1 := hS8.c1
        have hf0 := hS8.free 0
        have hf1 := hS8.free 1
        have hE := Lib.hid (hS8.done (m' := m + 14) (by omega) hR (Nat.le_refl _) (.int .i64 x) (.int .i64 y))
        clear hS8
        go_wp2
        exact bodyPost_ret (v := .agg #[.int .i64 x, .int .i64 y]) (by simp (maxDischargeDepth := 9) [results, Try.results106, go_sem, *]) rfl ⟨_, _, rfl, hE.out⟩
    | false =>
      obtain ⟨a, ea⟩ : ∃ a, a9 - 15 = a := ⟨_, rfl⟩
      obtain ⟨b, eb⟩ : ∃ b, 1 + b9 = b := ⟨_, rfl⟩
      have hb0 : 0 < b := by omega
      have hab : -1000000000 ≤ a ∧ a ≤ 1000000000 ∧ b ≤ 1000000000 := by omega
      have hS := hS4
      clear hS4
      go_wp2_with fail
      refine (HO.out _ _ _ _ hS (by omega) (by omega)).mono ?_
      rintro e1 w7 ⟨r3, rfl, hd7⟩
      have hS7 := HD.out _ _ _ _ _ hS hd7 hR
      clear hS hd7

      clear ea eb
      cases r3 with
      | true =>
        have hc0 := hS7.c0
        have hc1 := hS7.c1
        have hf0 := hS7.free 0
        have hf1 := hS7.free 1
        have hE := Lib.hid (hS7.done (m' := m + 14) (by omega) hR (Nat.le_refl _) (.int .i64 a) (.int .i64 b))
        clear hS7
        go_wp2
        exact bodyPost_ret (v := .agg #[.int .i64 a, .int .i64 b]) (by simp (maxDischargeDepth := 9) [results, Try.results106, go_sem, *]) rfl ⟨_, _, rfl, hE.out⟩
      | false =>
        go_wp2_with fail
        refine (HC.out _ _ _ hb0 (by omega) (by omega)).mono ?_
        rintro e1 w8 ⟨rfl, hb8⟩
        have hS8 := hS7.below hb8
        clear hS7 hb8
        generalize lowX a b = x at *
        generalize lowY a b = y at *
        have hc0 := hS8.c0
        have hc1 := hS8.c1
        have hf0 := hS8.free 0
        have hf1 := hS8.free 1
        have hE := Lib.hid (hS8.done (m' := m + 14) (by omega) hR (Nat.le_refl _) (.int .i64 x) (.int .i64 y))
        clear hS8
        go_wp2
        exact bodyPost_ret (v := .agg #[.int .i64 x, .int .i64 y]) (by simp (maxDischargeDepth := 9) [results, Try.results106, go_sem, *]) rfl ⟨_, _, rfl, hE.out⟩
end Go.Proofs.Ytombfbmcplefgaa
/- Contracts: the reference's draws of lists. -/
namespace Go.Proofs.Ytombfbmcplefgaa
open Go.ChangeShapes Go.WideShapes Go.ChangeAt Go.RowKit

theorem Bd.app {L : List Int} {v : Int} (h : Bd L) (hv : -9223372036854775808 ≤ v ∧ v ≤ 9223372036854775807) : Bd (L ++ [v]) := fun j => by
  rcases Nat.lt_trichotomy j L.length with hj | hj | hj
  · rw [nth_app_lt hj]; exact h j
  · rw [hj, nth_app_eq]; exact hv
  · have : nth (L ++ [v]) j = 0 := by unfold nth; rw [List.getD_eq_getElem?_getD, List.getElem?_eq_none (by simp; omega)]; rfl
    rw [this]; exact ⟨by decide, by decide⟩
theorem Bd.set {L : List Int} {v : Int} {k : Nat} (h : Bd L) (hk : k < L.length) (hv : -9223372036854775808 ≤ v ∧ v ≤ 9223372036854775807) : Bd (L.set k v) := fun j => by
  rw [nth_set _ _ _ _ hk]; split
  · exact hv
  · exact h j
theorem Bd.nil : Bd [] := fun j => by simp [nth]
theorem own_head2 {w : World} {B : Nat} {v : Value} {xs : List Int} {n : Nat} (h : w.ownsRow B 3 1 v n (i64s xs)) (hn : 1 ≤ n) : ∃ g c, v = .slice (some ⟨g, 0, none⟩) n c ∧ B ≤ g ∧ Row w g xs := by
  have hl : xs.length = n := by have := h.1; simpa [i64s] using this
  obtain ⟨A, c, hv, hO⟩ := own_form h
  rcases hO with ⟨_, e⟩ | ⟨g, rfl, hg, hr⟩
  · rw [e] at hl; simp at hl; omega
  · exact ⟨g, c, by rw [hv, hl], hg, hr⟩
/-- A function that draws a list, under way: the list is v, its own. -/
def StL (w W : World) (g : Nat) (C : Option Addr) (n cc m : Nat) (v : Value) (L : List Int) : Prop :=
  CurB W g C n cc m ∧ Byt W C n ∧ KeptBut w W g g ∧ W.ownsRow w.heap.size 3 1 v L.length (i64s L) ∧ Bd L
section
variable {w W W' : World} {g n cc m m' : Nat} {C : Option Addr} {v v' : Value} {L : List Int}
theorem StL.ne (h : StL w W g C n cc m v L) (hg : g < w.heap.size) : v.ownBlock ≠ some g := own_ne h.2.2.2.1 hg
theorem StL.draw (h : StL w W g C n cc m v L) (hd : Drew W g C n cc m' W') (hne : ∀ b o, 0 < n → C = some ⟨b, o, none⟩ → b ≠ g) (hg : g < w.heap.size) : StL w W' g C n cc m' v L := by
  have hn := h.ne hg
  obtain ⟨h1, h2, h3, h4, h5⟩ := h
  refine ⟨hd.1, h2.kept hd.2 hne, h3.trans2 hd.2, ⟨h4.1, ?_⟩, h5⟩
  rcases h4.2 with hx | ⟨b, cap, cur, rfl, hb, hgg, rest⟩
  · exact .inl hx
  · have hbg : b ≠ g := fun e => hn (by simp [Value.ownBlock, e])
    exact .inr ⟨b, cap, cur, rfl, hb, (hd.2.block b (Array.getElem?_eq_some_iff.1 hgg).1 hbg hbg).trans hgg, rest⟩
theorem StL.below (h : StL w W g C n cc m v L) (hb : Below W.heap.size W W') : StL w W' g C n cc m v L :=
  ⟨h.1.below hb, h.2.1.below hb, kept_below h.2.2.1 hb, own_below h.2.2.2.1 hb, h.2.2.2.2⟩
theorem StL.mono (h : StL w W g C n cc m v L) (hm : m ≤ m') : StL w W g C n cc m' v L := ⟨h.1.mono hm, h.2⟩
theorem StL.grown {x : Int} (h : StL w W g C n cc m v L) (hg : g < w.heap.size) (hC : ∀ b o, 0 < n → C = some ⟨b, o, none⟩ → b < w.heap.size) (hb : W.grownBy W' v.ownBlock) (ho : W'.ownsRow w.heap.size 3 1 v' (L.length + 1) (i64s L ++ [.int .i64 x])) (hx : -9223372036854775808 ≤ x ∧ x ≤ 9223372036854775807) : StL w W' g C n cc m v' (L ++ [x]) := by
  have hn := h.ne hg
  obtain ⟨h1, h2, h3, h4, h5⟩ := h
  refine ⟨?_, ?_, ?_, ?_, h5.app hx⟩
  · have hl := h1.lt
    obtain ⟨k, sd, e, r⟩ := h1
    exact ⟨k, sd, (hb.block g hl (fun e => hn e.symm)).trans e, r⟩
  · intro j hj
    obtain ⟨b, o, u, e, hc, hu⟩ := h2 j hj
    exact ⟨b, o, u, e, grown_cell hb hc (own_ne h4 (hC b o (by omega) e)), hu⟩
  · exact ⟨hb.os.trans h3.os, hb.tape.trans h3.tape, hb.output.trans h3.output, Nat.le_trans h3.size hb.size, fun k hk a1 a2 => (hb.block k (Nat.lt_of_lt_of_le hk h3.size) (fun e => own_ne h4 hk e.symm)).trans (h3.block k hk a1 a2)⟩
  · rw [List.length_append, i64s_app]; exact ho
theorem StL.put {gO c k : Nat} {x : Int} (h : StL w W g C n cc m (.slice (some ⟨gO, 0, none⟩) L.length c) L) (hg : g < w.heap.size) (hC : ∀ b o, 0 < n → C = some ⟨b, o, none⟩ → b < w.heap.size) (hO : w.heap.size ≤ gO) (hk : k < L.length) (hx : -9223372036854775808 ≤ x ∧ x ≤ 9223372036854775807) : StL w (W.setCell ⟨gO, k, none⟩ (.int .i64 x)) g C n cc m (.slice (some ⟨gO, 0, none⟩) L.length c) (L.set k x) := by
  obtain ⟨h1, h2, h3, h4, h5⟩ := h
  refine ⟨h1.far (by omega) _ _, ?_, kept_set h3 hO _ _, ?_, h5.set hk hx⟩
  · intro j hj
    obtain ⟨b, o, u, e, hc, hu⟩ := h2 j hj
    have := hC b o (by omega) e
    exact ⟨b, o, u, e, cell_far hc (by simp; omega) _, hu⟩
  · have := (h4.stored k (.int .i64 x)).1
    rw [List.length_set]
    simpa [i64s, List.map_set] using this
end
set_option maxHeartbeats 4000000 in
set_option maxRecDepth 100000 in
theorem somePays_draw {g n cc m : Nat} {C : Option Addr} (q : Nat) (w : World) (h : CurB w g C n cc m) (hB : Byt w C n) (hne : ∀ b o, 0 < n → C = some ⟨b, o, none⟩ → b ≠ g) (hC : ∀ b o, 0 < n → C = some ⟨b, o, none⟩ → b < w.heap.size) (hm : m + 100 ≤ 1000000) (hn : n ≤ 1000000) (hq : q ≤ 24) :
    Calls Try.prog 136 #[.pointer (some ⟨g, 0, none⟩), .int .i64 q] w fun e w' => ∃ (xs : List Int) (A : Option Addr) (c : Nat), e = .returned (.slice A xs.length c) ∧ OwnS w' w.heap.size A xs ∧ xs.length ≤ 25 ∧ Bd xs ∧ Drew w g C n cc (m + 60) w' := by
  have hgw := h.lt
  have HP := Lib.hid (fun W (p : Int) m' v L (hs : StL w W g C n cc m' v L) (a : m' + 1 ≤ 1000000) (b : 1 ≤ p ∧ p ≤ 1000000000) => pick_draw p W hs.1 hs.2.1 hne a hn b)
  have HO := Lib.hid (fun W (p : Int) m' v L (hs : StL w W g C n cc m' v L) (a : m' + 1 ≤ 1000000) (b : 1 ≤ p ∧ p ≤ 1000000000) => one_draw p W hs.1 hs.2.1 hne a hn b)
  have HA := Lib.hid (fun W (A : Option Addr) (c : Nat) (xs : List Int) m' v L (hs : StL w W g C n cc m' v L) (a : m' + 1 ≤ 1000000) (b : IntS W A xs) (d : ∀ b o, A = some ⟨b, o, none⟩ → b ≠ g) (e : 1 ≤ xs.length ∧ xs.length ≤ 1000) => among_draw A c xs W hs.1 hs.2.1 hne a hn b d e)
  have HD := Lib.hid (fun W W' m' m2 v L (hs : StL w W g C n cc m' v L) (hd : Drew W g C n cc m2 W') => hs.draw hd hne hgw)
  have HG := Lib.hid (fun W W' m' v v' L x (hs : StL w W g C n cc m' v L) (a : W.grownBy W' v.ownBlock) (b : W'.ownsRow w.heap.size 3 1 v' (L.length + 1) (i64s L ++ [.int .i64 x])) (d : -9223372036854775808 ≤ x ∧ x ≤ 9223372036854775807) => hs.grown hgw hC a b d)
  have HS := Lib.hid (fun W m' (gO c k : Nat) L x (hs : StL w W g C n cc m' (.slice (some ⟨gO, 0, none⟩) L.length c) L) (a : w.heap.size ≤ gO) (b : k < L.length) (d : -9223372036854775808 ≤ x ∧ x ≤ 9223372036854775807) => hs.put hgw hC a b d)
  have hS0 : StL w (w.alloc (.cells #[] 3)) g C n cc m (.slice (some ⟨w.heap.size, 0, none⟩) 0 0) [] :=
    ⟨h.below ((Below.refl _ _).alloc (Nat.le_refl _) _), hB.below ((Below.refl _ _).alloc (Nat.le_refl _) _), kept_below (KeptBut.refl2 w g) ((Below.refl _ _).alloc (Nat.le_refl _) _), own_empty w w.heap.size w.heap.size rfl (Nat.le_refl _), Bd.nil⟩
  have hs1 : (w.alloc (.cells #[] 3)).heap.size = w.heap.size + 1 := by simp
  have hI1 := list_IntS (w.alloc (.cells #[] 3)) ([3, 10, 30] : List Int) (by decide)
  rw [hs1] at hI1
  have HL1 : (i64s ([3, 10, 30] : List Int)).toArray = #[.int .i64 3, .int .i64 10, .int .i64 30] := rfl
  rw [HL1] at hI1
  have HL5 : Hid ((i64s ([999, -999, 1000, -1000, 4611686018427387904] : List Int)).toArray = #[.int .i64 999, .int .i64 (-999), .int .i64 1000, .int .i64 (-1000), .int .i64 4611686018427387904]) := rfl
  have HR3 : Hid (∀ j, j < 3 → 3 ≤ nth ([3, 10, 30] : List Int) j ∧ nth ([3, 10, 30] : List Int) j ≤ 30) := by show ∀ j, j < 3 → _; decide
  have HR5 : Hid (∀ j, j < 5 → -9223372036854775808 ≤ nth ([999, -999, 1000, -1000, 4611686018427387904] : List Int) j ∧ nth ([999, -999, 1000, -1000, 4611686018427387904] : List Int) j ≤ 9223372036854775807) := by show ∀ j, j < 5 → _; decide
  have hS1 := hS0.below ((Below.refl (w.alloc (.cells #[] 3)).heap.size (w.alloc (.cells #[] 3))).alloc (Nat.le_refl _) (.cells #[.int .i64 3, .int .i64 10, .int .i64 30] 3))
  obtain ⟨i0, hi, hz0, hz1, hz2⟩ := info_parts info_int
  clear hS0 HL1 hs1 h hB hne hC hn
  go_enter Try.func136, Try.ntmps136
  go_wp2_with fail
  refine (HA.out _ _ 3 ([3, 10, 30] : List Int) _ _ _ hS1 (by omega) hI1 (fun b o e => by injection e with e; injection e with e; omega) (by decide)).mono ?_
  rintro e1 w2 ⟨j1, hj1, rfl, hd⟩
  have hS2 := HD.out _ _ _ _ _ _ hS1 hd
  have hbig := HR3.out j1 hj1
  generalize nth ([3, 10, 30] : List Int) j1 = big at *
  clear hS1 hd hI1 HR3 hj1
  have u1 : IntKind.i64.wrap (2 * big) = 2 * big := IntWalk.i64_in _ (by omega)
  have u2 : IntKind.i64.wrap (2 * big + 1) = 2 * big + 1 := IntWalk.i64_in _ (by omega)
  go_wp2
  go_loopw [5, 7] (fun v i wr => ∃ (k : Nat) (L : List Int), k ≤ q ∧ i = .int .i64 k ∧ L.length = k ∧ StL w wr g C n cc (m + 2 + 2 * k) v L) (fun _ i _ => q - (intOf i).toNat)
  case atStart => exact ⟨0, [], by omega, rfl, rfl, hS2⟩
  case round =>
    clear hS2
    obtain ⟨k, L, hk, rfl, hLk, hS⟩ := hrel
    have HLk := Lib.hid hLk
    clear hLk
    by_cases hlt : k < q
    · have i1 : (k : Int) < q := by omega
      go_wp2_with fail
      refine (HP.out _ (2 * big + 1) _ _ _ hS (by omega) (by omega)).mono ?_
      rintro e1 w3 ⟨r, rfl, hr0, hr1, hd⟩
      have hS3 := HD.out _ _ _ _ _ _ hS hd
      have u3 : IntKind.i64.wrap (r - big) = r - big := IntWalk.i64_in _ (by omega)
      obtain ⟨x, hx⟩ : ∃ x, r - big = x := ⟨_, rfl⟩
      rw [hx] at u3
      have hown := hS3.2.2.2.1
      have hxb : -9223372036854775808 ≤ x ∧ x ≤ 9223372036854775807 := by omega
      have hlen : L.length ≤ 24 := by rw [HLk.out]; omega
      have hsz := hS3.2.2.1.size
      have hSa := hS3.below ((Below.refl w3.heap.size w3).alloc (Nat.le_refl _) (.cells #[.int .i64 x] 3))
      clear hS hd hS3
      go_wp2_with (at_builtin; (refine wpList_append_own_at _ rfl _ _ 22 rfl (w.heap.size) 3 i0 (.int .i64 0) 1 8 Try.underlying22 hi hz0 hz1 hz2 rfl (by decide) _ _ _ rfl (hown.alloc _) ⟨w3.heap.size, 0, none⟩ 1 1 [.int .i64 (x)] rfl rfl (cell_one_new _ _ _) (by simp [Value.oneCell']) (by unfold maxLen; omega) (by omega) (by simp; omega) ?_); intro v' w1 hown1 hgrow _ hat)
      have hS4 := HG.out _ _ _ _ _ _ _ hSa hgrow hown1 hxb
      clear hSa hgrow hown1 hown hat
      go_wp2
      go_roundw
      case rel => exact ⟨k + 1, L ++ [x], by omega, by go_num, by simp [HLk.out], hS4⟩
      case measure => simp [intOf]; omega
    · have hkq : k = q := by omega
      have hLq := Lib.hid (show L.length = q by rw [HLk.out]; exact hkq)
      clear u1 u2 hbig
      replace hS := hS.mono (m' := m + 50) (by omega)
      clear hkq HLk
      by_cases hq0 : q = 0
      · subst hq0
        go_wp2_with fail
        refine (HO.out _ 40 _ _ _ hS (by omega) (by omega)).mono ?_
        rintro e1 w7 ⟨b2, rfl, hd⟩
        have hS7 := HD.out _ _ _ _ _ _ hS hd
        clear hS hd
        cases b2 with
        | false =>
          obtain ⟨A', c', hv, hO⟩ := own_form hS7.2.2.2.1
          have hE := Lib.hid hS7
          clear hS7
          go_wp2
          go_ret
          exact ⟨L, A', c', by rw [← hv]; rfl, hO, by rw [hLq.out]; omega, hE.out.2.2.2.2, hE.out.1.mono (by omega), hE.out.2.2.1⟩
        | true =>
          have hown := hS7.2.2.2.1
          have hlen : L.length ≤ 24 := by rw [hLq.out]; exact hq
          have hsz := hS7.2.2.1.size
          have hSa := hS7.below ((Below.refl w7.heap.size w7).alloc (Nat.le_refl _) (.cells #[.int .i64 0] 3))
          clear hS7
          go_wp2_with (at_builtin; (refine wpList_append_own_at _ rfl _ _ 22 rfl (w.heap.size) 3 i0 (.int .i64 0) 1 8 Try.underlying22 hi hz0 hz1 hz2 rfl (by decide) _ _ _ rfl (hown.alloc _) ⟨w7.heap.size, 0, none⟩ 1 1 [.int .i64 (0)] rfl rfl (cell_one_new _ _ _) (by simp [Value.oneCell']) (by unfold maxLen; omega) (by omega) (by simp; omega) ?_); intro v' w1 hown1 hgrow _ hat)
          have hS8 := HG.out _ _ _ _ _ _ _ hSa hgrow hown1 (by omega)
          obtain ⟨A', c', hv, hO⟩ := own_form hS8.2.2.2.1
          have hE := Lib.hid hS8
          clear hSa hgrow hown1 hown hat hS8
          go_wp2
          go_ret
          exact ⟨L ++ [0], A', c', by rw [← hv]; rfl, hO, by rw [List.length_append, hLq.out]; first | (simp; done) | (simp; omega), hE.out.2.2.2.2, hE.out.1.mono (by omega), hE.out.2.2.1⟩
      · have g1 : (q : Int) > 0 := by omega
        have g2 : decide ((q : Int) > 0) = true := decide_eq_true g1
        go_wp2_with fail
        refine (HO.out _ 30 _ _ _ hS (by omega) (by omega)).mono ?_
        rintro e1 w3 ⟨b1, rfl, hd⟩
        have hS3 := HD.out _ _ _ _ _ _ hS hd
        clear hS hd
        cases b1 with
        | false =>
          have hS := hS3
          clear hS3
          go_wp2_with fail
          refine (HO.out _ 40 _ _ _ hS (by omega) (by omega)).mono ?_
          rintro e1 w7 ⟨b2, rfl, hd⟩
          have hS7 := HD.out _ _ _ _ _ _ hS hd
          clear hS hd
          cases b2 with
          | false =>
            obtain ⟨A', c', hv, hO⟩ := own_form hS7.2.2.2.1
            have hE := Lib.hid hS7
            clear hS7
            go_wp2
            go_ret
            exact ⟨L, A', c', by rw [← hv]; rfl, hO, by rw [hLq.out]; omega, hE.out.2.2.2.2, hE.out.1.mono (by omega), hE.out.2.2.1⟩
          | true =>
            have hown := hS7.2.2.2.1
            have hlen : L.length ≤ 24 := by rw [hLq.out]; exact hq
            have hsz := hS7.2.2.1.size
            have hSa := hS7.below ((Below.refl w7.heap.size w7).alloc (Nat.le_refl _) (.cells #[.int .i64 0] 3))
            clear hS7
            go_wp2_with (at_builtin; (refine wpList_append_own_at _ rfl _ _ 22 rfl (w.heap.size) 3 i0 (.int .i64 0) 1 8 Try.underlying22 hi hz0 hz1 hz2 rfl (by decide) _ _ _ rfl (hown.alloc _) ⟨w7.heap.size, 0, none⟩ 1 1 [.int .i64 (0)] rfl rfl (cell_one_new _ _ _) (by simp [Value.oneCell']) (by unfold maxLen; omega) (by omega) (by simp; omega) ?_); intro v' w1 hown1 hgrow _ hat)
            have hS8 := HG.out _ _ _ _ _ _ _ hSa hgrow hown1 (by omega)
            obtain ⟨A', c', hv, hO⟩ := own_form hS8.2.2.2.1
            have hE := Lib.hid hS8
            clear hSa hgrow hown1 hown hat hS8
            go_wp2
            go_ret
            exact ⟨L ++ [0], A', c', by rw [← hv]; rfl, hO, by rw [List.length_append, hLq.out]; first | (simp; done) | (simp; omega), hE.out.2.2.2.2, hE.out.1.mono (by omega), hE.out.2.2.1⟩
        | true =>
          obtain ⟨gO, cO, rfl, hgO, _⟩ := own_head2 hS3.2.2.2.1 (by rw [hLq.out]; omega)
          go_wp2_with fail
          refine (HP.out _ (q : Int) _ _ _ hS3 (by omega) (by omega)).mono ?_
          rintro e1 w4 ⟨r, rfl, hr0, hr1, hd⟩
          have hS4 := HD.out _ _ _ _ _ _ hS3 hd
          clear hS3 hd
          obtain ⟨k2, rfl⟩ := Int.eq_ofNat_of_zero_le hr0
          have hI5 := list_IntS w4 ([999, -999, 1000, -1000, 4611686018427387904] : List Int) (by decide)
          rw [HL5.out] at hI5
          have hgl := hS4.2.2.1.size
          have hSa := hS4.below ((Below.refl w4.heap.size w4).alloc (Nat.le_refl _) (.cells #[.int .i64 999, .int .i64 (-999), .int .i64 1000, .int .i64 (-1000), .int .i64 4611686018427387904] 3))
          clear hS4
          go_wp2_with fail
          refine (HA.out _ _ 5 ([999, -999, 1000, -1000, 4611686018427387904] : List Int) _ _ _ hSa (by omega) hI5 (fun b o e => by injection e with e; injection e with e; omega) (by decide)).mono ?_
          rintro e1 w5 ⟨j2, hj2, rfl, hd⟩
          have hS5 := HD.out _ _ _ _ _ _ hSa hd
          have hx := HR5.out j2 hj2
          generalize nth ([999, -999, 1000, -1000, 4611686018427387904] : List Int) j2 = x at *
          clear hSa hd hI5 hgl HR5 HL5 hj2
          have i2 : (k2 : Int) < L.length := by rw [hLq.out]; omega
          have hk2 : k2 < L.length := by omega
          have hc := hS5.2.2.2.1.cellAt k2 (by omega)
          have hf := hS5.2.2.2.1.frozenAt k2
          have hc2 : w5.cell? ⟨gO, k2, none⟩ = some (.int .i64 (nth L k2)) := by rw [hc]; simp [i64s, nth, List.getD, hk2]
          have hS6 := HS.out _ _ gO cO k2 L x hS5 hgO hk2 hx
          have hLq2 := Lib.hid (show (L.set k2 x).length = q by rw [List.length_set]; exact hLq.out)
          have hLL := Lib.hid (show (L.set k2 x).length = L.length from List.length_set)
          generalize L.set k2 x = L2 at *
          clear hc hS5 hk2
          have hS := hS6
          clear hS6
          go_wp2_with fail
          refine (HO.out _ 40 _ _ _ hS (by omega) (by omega)).mono ?_
          rintro e1 w7 ⟨b2, rfl, hd⟩
          have hS7 := HD.out _ _ _ _ _ _ hS hd
          clear hS hd
          cases b2 with
          | false =>
            obtain ⟨A', c', hv, hO⟩ := own_form hS7.2.2.2.1
            have hE := Lib.hid hS7
            clear hS7
            go_wp2
            go_ret
            exact ⟨L2, A', c', by rw [← hv]; rfl, hO, by rw [hLq2.out]; omega, hE.out.2.2.2.2, hE.out.1.mono (by omega), hE.out.2.2.1⟩
          | true =>
            have hown := hS7.2.2.2.1
            have hlen : L2.length ≤ 24 := by rw [hLq2.out]; exact hq
            have hsz := hS7.2.2.1.size
            have hSa := hS7.below ((Below.refl w7.heap.size w7).alloc (Nat.le_refl _) (.cells #[.int .i64 0] 3))
            clear hS7
            go_wp2_with (at_builtin; (refine wpList_append_own_at _ rfl _ _ 22 rfl (w.heap.size) 3 i0 (.int .i64 0) 1 8 Try.underlying22 hi hz0 hz1 hz2 rfl (by decide) _ _ _ rfl (hown.alloc _) ⟨w7.heap.size, 0, none⟩ 1 1 [.int .i64 (0)] rfl rfl (cell_one_new _ _ _) (by simp [Value.oneCell']) (by unfold maxLen; omega) (by omega) (by simp; omega) ?_); intro v' w1 hown1 hgrow _ hat)
            have hS8 := HG.out _ _ _ _ _ _ _ hSa hgrow hown1 (by omega)
            obtain ⟨A', c', hv, hO⟩ := own_form hS8.2.2.2.1
            have hE := Lib.hid hS8
            clear hSa hgrow hown1 hown hat hS8
            go_wp2
            go_ret
            exact ⟨L2 ++ [0], A', c', by rw [← hv]; rfl, hO, by rw [List.length_append, hLq2.out]; first | (simp; done) | (simp; omega), hE.out.2.2.2.2, hE.out.1.mono (by omega), hE.out.2.2.1⟩
end Go.Proofs.Ytombfbmcplefgaa
