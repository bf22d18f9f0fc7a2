/- Contracts: the reference's draws of trees' nodes, events and pays. -/
import Derived.BigQuiet
import Derived.Deep.QuietTactic
import Derived.Deep.DeepCutAuto
import Derived.Test.YtombfbmcplefgaaMgMn14
import Derived.Test.YtombfbmcplefgaaMgMn5
import Derived.Test.YtombfbmcplefgaaMgMn17
import Derived.Test.YtombfbmcplefgaaMgMn12
import Derived.Test.YtombfbmcplefgaaMgMn15
namespace Go.Proofs.Ytombfbmcplefgaa
open Go.ChangeShapes Go.WideShapes Go.ChangeAt Go.RowKit

set_option maxHeartbeats 1000000 in
theorem tree_draw {g n cc m : Nat} {C : Option Addr} (w : World) (h : CurB w g C n cc m) (hB : Byt w C n) (hne : ∀ b o, 0 < n → C = some ⟨b, o, none⟩ → b ≠ g) (hC : ∀ b o, 0 < n → C = some ⟨b, o, none⟩ → b < w.heap.size) (hn : n ≤ 1000000) (hm : m + 200 ≤ 1000000) :
    Calls Try.prog 118 #[.pointer (some ⟨g, 0, none⟩)] w (RetDr w g C n cc (m + 120)) := by
  have hgw := h.lt
  obtain ⟨w0, hw0⟩ : ∃ W, W = w.alloc (.cells #[.slice none 0 0, .slice none 0 0] 28) := ⟨_, rfl⟩
  have hb0 : Below w.heap.size w w0 := by rw [hw0]; exact (Below.refl _ _).alloc (Nat.le_refl _) _
  have hs0 : w0.heap.size = w.heap.size + 1 := by rw [hw0]; simp
  have hres : BlkT w0 w.heap.size (.slice none 0 0) (.slice none 0 0) := by rw [hw0]; exact BlkT.new w _ _ rfl
  have HT := Lib.hid (someTree_draw 24 w0 (h.below hb0) (hB.below hb0) hne (fun b o h0 e => by have := hC b o h0 e; omega) hm hn (by omega))
  clear hne hC hB h
  go_enter Try.func118, Try.ntmps118
  go_wp2_with fail
  rw [← hw0]
  refine HT.out.mono ?_
  rintro e1 w1 ⟨X, Y, A, B, c, d, rfl, hA, hB, hap, hX, hY, bX, bY, hd⟩
  replace hres := (hd.2.block _ hres.lt (by omega) (by omega)).trans hres
  have r0 := BlkT.c0 hres
  have r1 := BlkT.c1 hres
  have rf0 := BlkT.free hres 0
  have rf1 := BlkT.free hres 1
  have hkb := ((KeptBut.refl2 w1 w.heap.size).setg 0 (.slice A X.length c)).setg 1 (.slice B Y.length d)
  have hE := Lib.hid hd
  have hk := Lib.hid (KeptBut.pre hb0 hd.2)
  have hA' := (hkb.own hA (by omega) (by omega)).mono (B' := w.heap.size) (by omega)
  have hB' := (hkb.own hB (by omega) (by omega)).mono (B' := w.heap.size) (by omega)
  have HX := Lib.hid hX
  have HY := Lib.hid hY
  clear hd hA hB hkb hw0 hb0 HT hres hX hY
  go_wp2
  refine bodyPost_ret (v := .agg #[.slice A X.length c, .slice B Y.length d]) (by simp (maxDischargeDepth := 9) [results, Try.results118, go_sem, *]) rfl ⟨X, Y, A, B, c, d, rfl, hA', hB', hap, HX.out, HY.out, bX, bY, ((hE.out.1.far (by omega) 0 _).far (by omega) 1 _), kept_set (kept_set hk.out (Nat.le_refl _) 0 _) (Nat.le_refl _) 1 _⟩
set_option maxHeartbeats 2000000 in
set_option maxRecDepth 100000 in
theorem nodeOf_draw {g n cc m : Nat} {C : Option Addr} (A B : Option Addr) (k c l d : Nat) (w : World) (h : CurB w g C n cc m) (hB : Byt w C n) (hne : ∀ b o, 0 < n → C = some ⟨b, o, none⟩ → b ≠ g) (_hC : ∀ b o, 0 < n → C = some ⟨b, o, none⟩ → b < w.heap.size) (hn : n ≤ 1000000) (hm : m + 20 ≤ 1000000) (hk : k ≤ 1000) :
    Calls Try.prog 150 #[.pointer (some ⟨g, 0, none⟩), .agg #[.slice A k c, .slice B l d]] w fun e w' => ∃ r : Int, e = .returned (.int .i64 r) ∧ (-9223372036854775808 ≤ r ∧ r ≤ 9223372036854775807) ∧ Drew w g C n cc (m + 4) w' := by
  have hgw := h.lt
  obtain ⟨w0, hw0⟩ : ∃ W, W = w.alloc (.cells #[.slice A k c, .slice B l d] 28) := ⟨_, rfl⟩
  have hb0 : Below w.heap.size w w0 := by rw [hw0]; exact (Below.refl _ _).alloc (Nat.le_refl _) _
  have hs0 : w0.heap.size = w.heap.size + 1 := by rw [hw0]; simp
  have hbx : BlkT w0 w.heap.size (.slice A k c) (.slice B l d) := by rw [hw0]; exact BlkT.new w _ _ rfl
  have HP := Lib.hid (fun W (p : Int) m' (a : CurB W g C n cc m') (b : Byt W C n) (c : m' + 1 ≤ 1000000) (d : 1 ≤ p ∧ p ≤ 1000000000) => pick_draw p W a b hne c hn d)
  have HO := Lib.hid (fun W (p : Int) m' (a : CurB W g C n cc m') (b : Byt W C n) (c : m' + 1 ≤ 1000000) (d : 1 ≤ p ∧ p ≤ 1000000000) => one_draw p W a b hne c hn d)
  have HA := Lib.hid (fun W (A : Option Addr) (c : Nat) (xs : List Int) m' (a : CurB W g C n cc m') (b : Byt W C n) (cc' : m' + 1 ≤ 1000000) (h : IntS W A xs) (d : ∀ b o, A = some ⟨b, o, none⟩ → b ≠ g) (e : 1 ≤ xs.length ∧ xs.length ≤ 1000) => among_draw A c xs W a b hne cc' hn h d e)
  have HK := Lib.hid (fun W W' (b : Byt W C n) (hk : KeptBut W W' g g) => b.kept hk hne)
  have hc0 := h.below hb0
  have hB0 := hB.below hb0
  have hK0 := Lib.hid (kept_below (KeptBut.refl2 w g) hb0)
  have t0 := hbx.c0
  clear hne _hC hB h hb0
  by_cases hk0 : k = 0
  case pos =>
    subst hk0
    have hI := list_IntS w0 ([-1, 0, 0, 4611686018427387904] : List Int) (by decide)
    have HL : (i64s ([-1, 0, 0, 4611686018427387904] : List Int)).toArray = #[.int .i64 (-1), .int .i64 0, .int .i64 0, .int .i64 4611686018427387904] := rfl
    rw [HL, hs0] at hI
    have hbA : Below w0.heap.size w0 (w0.alloc (.cells #[.int .i64 (-1), .int .i64 0, .int .i64 0, .int .i64 4611686018427387904] 3)) := (Below.refl _ _).alloc (Nat.le_refl _) _
    have hR : Hid (∀ j, j < 4 → -9223372036854775808 ≤ nth ([-1, 0, 0, 4611686018427387904] : List Int) j ∧ nth ([-1, 0, 0, 4611686018427387904] : List Int) j ≤ 9223372036854775807) := by show ∀ j, j < 4 → _; decide
    replace hc0 := hc0.below hbA
    replace hB0 := hB0.below hbA
    have hK1 := Lib.hid (kept_below hK0.out hbA)
    clear HL hbA hK0 hbx
    go_enter Try.func150, Try.ntmps150
    go_wp2_with fail
    rw [← hw0]
    refine (HA.out _ _ 4 ([-1, 0, 0, 4611686018427387904] : List Int) _ hc0 hB0 (by omega) hI (fun b o e => by injection e with e; injection e with e; omega) (by decide)).mono ?_
    rintro e1 w2 ⟨j1, hj1, rfl, hd⟩
    have hr := hR.out j1 hj1
    generalize nth ([-1, 0, 0, 4611686018427387904] : List Int) j1 = r at *
    clear hI hR hw0 hc0 hB0
    go_wp2
    go_ret
    exact ⟨r, rfl, hr, hd.1.mono (by omega), hK1.out.trans2 hd.2⟩
  have i0 : ((k : Int) == 0) = false := by rw [beq_eq_false_iff_ne]; omega
  go_enter Try.func150, Try.ntmps150
  go_wp2_with fail
  rw [← hw0]
  refine (HO.out _ 24 _ hc0 hB0 (by omega) (by omega)).mono ?_
  rintro e1 w2 ⟨b1, rfl, hd⟩
  replace hbx : BlkT w2 w.heap.size (.slice A k c) (.slice B l d) := (hd.2.block _ hbx.lt (by omega) (by omega)).trans hbx
  replace hB0 := HK.out _ _ hB0 hd.2
  have hc2 := hd.1
  have hK2 := Lib.hid (hK0.out.trans2 hd.2)
  have hlt2 := hbx.lt
  clear hd hK0 hw0 hc0 t0
  have t0 := hbx.c0
  cases b1 with
  | true =>
    have hI := list_IntS w2 ([-1, 0, (k : Int), 4611686018427387904] : List Int) (by simp)
    have HL : (i64s ([-1, 0, (k : Int), 4611686018427387904] : List Int)).toArray = #[.int .i64 (-1), .int .i64 0, .int .i64 k, .int .i64 4611686018427387904] := rfl
    rw [HL] at hI
    have hbA : Below w2.heap.size w2 (w2.alloc (.cells #[.int .i64 (-1), .int .i64 0, .int .i64 k, .int .i64 4611686018427387904] 3)) := (Below.refl _ _).alloc (Nat.le_refl _) _
    have hgl := hc2.lt
    replace hc2 := hc2.below hbA
    replace hB0 := hB0.below hbA
    have hK3 := Lib.hid (kept_below hK2.out hbA)
    clear HL hbA hK2 hbx
    go_wp2_with fail
    refine (HA.out _ _ 4 ([-1, 0, (k : Int), 4611686018427387904] : List Int) _ hc2 hB0 (by omega) hI (fun b o e => by injection e with e; injection e with e; omega) (by simp)).mono ?_
    rintro e1 w3 ⟨j1, hj1, rfl, hd⟩
    have hr : -9223372036854775808 ≤ nth ([-1, 0, (k : Int), 4611686018427387904] : List Int) j1 ∧ nth ([-1, 0, (k : Int), 4611686018427387904] : List Int) j1 ≤ 9223372036854775807 := by
      rcases j1 with _ | _ | _ | _ | j1
      all_goals (simp [nth] at hj1 ⊢; try omega)
    generalize nth ([-1, 0, (k : Int), 4611686018427387904] : List Int) j1 = r at *
    clear hI hc2 hB0 hj1
    go_wp2
    go_ret
    exact ⟨r, rfl, hr, hd.1.mono (by omega), hK3.out.trans2 hd.2⟩
  | false =>
    go_wp2_with fail
    refine (HP.out _ (k : Int) _ hc2 hB0 (by omega) (by omega)).mono ?_
    rintro e1 w3 ⟨r, rfl, h0, h1, hd⟩
    clear hc2 hB0
    go_wp2
    go_ret
    exact ⟨r, rfl, by omega, hd.1.mono (by omega), hK2.out.trans2 hd.2⟩

theorem ends_bd (X : List Int) (j : Nat) (hj : j < (endsL X).length) : 0 ≤ nth (endsL X) j ∧ nth (endsL X) j ≤ (X.length : Int) := by
  obtain ⟨y, hy, hl, _⟩ := ends_mem hj
  omega
/-- What the draws of lists leave: a new list. -/
def RetDl (w : World) (g : Nat) (C : Option Addr) (n cc m : Nat) (e : Ending) (w' : World) : Prop := ∃ (L : List Int) (A : Option Addr) (c : Nat), e = .returned (.slice A L.length c) ∧ OwnS w' w.heap.size A L ∧ L.length ≤ 25 ∧ Bd L ∧ Drew w g C n cc m w'
set_option maxHeartbeats 2000000 in
set_option maxRecDepth 100000 in
theorem endPays_draw {g n cc m : Nat} {C : Option Addr} (w : World) (h : CurB w g C n cc m) (hB : Byt w C n) (hne : ∀ b o, 0 < n → C = some ⟨b, o, none⟩ → b ≠ g) (hC : ∀ b o, 0 < n → C = some ⟨b, o, none⟩ → b < w.heap.size) (hn : n ≤ 1000000) (hm : m + 200 ≤ 1000000) (Bs : Nat) (A B : Option Addr) (c d : Nat) (X Y : List Int) (_hgB : g < Bs) (hA : OwnS w Bs A X) (hY : OwnS w Bs B Y) (bX : Bd X) (bY : Bd Y) (hX : X.length ≤ 25) (hYl : Y.length ≤ 50) :
    Calls Try.prog 132 #[.pointer (some ⟨g, 0, none⟩), .agg #[.slice A X.length c, .slice B Y.length d]] w (RetDl w g C n cc (m + 60)) := by
  have hgw := h.lt
  obtain ⟨w0, hw0⟩ : ∃ W, W = w.alloc (.cells #[.slice A X.length c, .slice B Y.length d] 28) := ⟨_, rfl⟩
  have hb0 : Below w.heap.size w w0 := by rw [hw0]; exact (Below.refl _ _).alloc (Nat.le_refl _) _
  have hbx : BlkT w0 w.heap.size (.slice A X.length c) (.slice B Y.length d) := by rw [hw0]; exact BlkT.new w _ _ rfl
  have HS := Lib.hid (fun W (q : Nat) (a : CurB W g C n cc m) (b : Byt W C n) (hb : Below w.heap.size w W) (hq : q ≤ 24) => somePays_draw q W a b hne (fun b o h0 e => Nat.lt_of_lt_of_le (hC b o h0 e) hb.size) (by omega) hn hq)
  have HR := Lib.hid (fun W W' e (hb : Below w.heap.size w W) (hr : ∃ (xs : List Int) (A : Option Addr) (c : Nat), e = .returned (.slice A xs.length c) ∧ OwnS W' W.heap.size A xs ∧ xs.length ≤ 25 ∧ Bd xs ∧ Drew W g C n cc (m + 60) W') => (by
    obtain ⟨L, A, c, he, ho, hl, hbd, hd⟩ := hr
    exact ⟨L, A, c, he, ho.mono hb.size, hl, hbd, hd.1, KeptBut.pre hb hd.2⟩ : RetDl w g C n cc (m + 60) e W'))
  have HGd := Lib.hid (fun W (h : OwnS W Bs A X ∧ OwnS W Bs B Y) => l2Good_any A B c d X Y W h.1.ints h.2.ints bX bY (by omega) (by omega))
  have HE := Lib.hid (fun (hg : good X Y = true) W (h : OwnS W Bs A X ∧ OwnS W Bs B Y) => l2Ends_any A B c Y.length d X W h.1.ints (by omega) (good_iff.1 hg).2.1 (good_iff.1 hg).1.2.2)
  have HE1 := Lib.hid (fun (hg : good X Y = true) => (⟨ends_pos hg, Nat.le_trans (ends_len X) (good_len hg).2.1, fun j hj => by have := ends_bd X j hj; omega⟩ : 1 ≤ (endsL X).length ∧ (endsL X).length ≤ 24 ∧ ∀ j, j < (endsL X).length → 0 ≤ nth (endsL X) j ∧ nth (endsL X) j ≤ 25))
  have hc0 := h.below hb0
  have hB0 := hB.below hb0
  have hA0 := hA.below hb0
  have hY0 := hY.below hb0
  have t0 := hbx.c0
  have t1 := hbx.c1
  obtain ⟨r, hr⟩ : ∃ r, good X Y = r := ⟨_, rfl⟩
  rw [hr] at HGd
  have Hr := Lib.hid hr
  clear hne hC hB h hA hY hr bX bY hX hYl _hgB
  go_enter Try.func132, Try.ntmps132
  go_wp2_with fail
  rw [← hw0]
  refine (HGd.out _ ⟨hA0, hY0⟩).mono ?_
  rintro e1 w1 ⟨rfl, hb⟩
  replace hc0 := hc0.below hb
  replace hB0 := hB0.below hb
  replace hA0 := hA0.below hb
  replace hY0 := hY0.below hb
  replace hbx := hbx.below hb
  replace hb0 := keep_below hb hb0
  clear hb t0 t1 hw0
  have t0 := hbx.c0
  have t1 := hbx.c1
  cases r with
  | false =>
    clear hA0 hY0
    go_wp2_with fail
    refine (HS.out _ 3 hc0 hB0 hb0 (by omega)).mono ?_
    intro e1 w2 hq
    obtain ⟨L, A3, c3, rfl, hrest⟩ := hq
    have hF := Lib.hid (HR.out _ _ _ hb0 ⟨L, A3, c3, rfl, hrest⟩)
    clear hrest hc0 hB0
    go_wp2
    go_ret
    exact hF.out
  | true =>
    obtain ⟨he1, he2, -⟩ := HE1.out Hr.out
    go_wp2_with fail
    refine (HE.out Hr.out _ ⟨hA0, hY0⟩).mono ?_
    rintro e1 w2 ⟨A4, c4, rfl, _, hb⟩
    generalize (endsL X).length = q at *
    replace hc0 := hc0.below hb
    replace hB0 := hB0.below hb
    replace hb0 := keep_below hb hb0
    clear hb t0 t1 hA0 hY0 hbx
    go_wp2_with fail
    refine (HS.out _ q hc0 hB0 hb0 he2).mono ?_
    intro e1 w3 hq
    obtain ⟨L, A3, c3, rfl, hrest⟩ := hq
    have hF := Lib.hid (HR.out _ _ _ hb0 ⟨L, A3, c3, rfl, hrest⟩)
    clear hrest hc0 hB0
    go_wp2
    go_ret
    exact hF.out
set_option maxHeartbeats 4000000 in
set_option maxRecDepth 100000 in
theorem event_draw {g n cc m : Nat} {C : Option Addr} (w : World) (h : CurB w g C n cc m) (hB : Byt w C n) (hne : ∀ b o, 0 < n → C = some ⟨b, o, none⟩ → b ≠ g) (hC : ∀ b o, 0 < n → C = some ⟨b, o, none⟩ → b < w.heap.size) (hn : n ≤ 1000000) (hm : m + 200 ≤ 1000000) (Bs : Nat) (A B : Option Addr) (c d : Nat) (X Y : List Int) (hgB : g < Bs) (hA : OwnS w Bs A X) (hY : OwnS w Bs B Y) (bX : Bd X) (bY : Bd Y) (hX : X.length ≤ 25) (hYl : Y.length ≤ 50) :
    Calls Try.prog 119 #[.pointer (some ⟨g, 0, none⟩), .agg #[.slice A X.length c, .slice B Y.length d]] w (RetDl w g C n cc (m + 120)) := by
  have hgw := h.lt
  obtain ⟨w0, hw0⟩ : ∃ W, W = w.alloc (.cells #[.slice A X.length c, .slice B Y.length d] 28) := ⟨_, rfl⟩
  have hb0 : Below w.heap.size w w0 := by rw [hw0]; exact (Below.refl _ _).alloc (Nat.le_refl _) _
  have hbx : BlkT w0 w.heap.size (.slice A X.length c) (.slice B Y.length d) := by rw [hw0]; exact BlkT.new w _ _ rfl
  have hs0 : w0.heap.size = w.heap.size + 1 := by rw [hw0]; simp
  have hgw0 : g < w0.heap.size := by omega
  have hgw1 : w.heap.size ≠ g := by omega
  have hC0 : ∀ b o, 0 < n → C = some ⟨b, o, none⟩ → b < w0.heap.size := fun b o h0 e => by have := hC b o h0 e; omega
  have hA0 := hA.below hb0
  have hY0 := hY.below hb0
  have HO := Lib.hid (fun W (p : Int) m' v L (hs : StL w0 W g C n cc m' v L) (a : m' + 1 ≤ 1000000) (b : 1 ≤ p ∧ p ≤ 1000000000) => one_draw p W hs.1 hs.2.1 hne a hn b)
  have HD := Lib.hid (fun W W' m' m2 v L (hs : StL w0 W g C n cc m' v L) (hd : Drew W g C n cc m2 W') => hs.draw hd hne hgw0)
  have HG := Lib.hid (fun W W' m' v v' L x (hs : StL w0 W g C n cc m' v L) (a : W.grownBy W' v.ownBlock) (b : W'.ownsRow w0.heap.size 3 1 v' (L.length + 1) (i64s L ++ [.int .i64 x])) (d : -9223372036854775808 ≤ x ∧ x ≤ 9223372036854775807) => hs.grown hgw0 hC0 a b d)
  have HN := Lib.hid (fun W m' (a : CurB W g C n cc m') (b : Byt W C n) (hb : w.heap.size ≤ W.heap.size) (d9 : m' + 20 ≤ 1000000) => nodeOf_draw A B X.length c Y.length d W a b hne (fun b o h0 e => Nat.lt_of_lt_of_le (hC b o h0 e) hb) hn d9 (by omega))
  have HI := Lib.hid (fun W (hk : KeptBut w0 W g g) => (⟨hk.own hA0 hgB hgB, hk.own hY0 hgB hgB⟩ : OwnS W Bs A X ∧ OwnS W Bs B Y))
  have HX := Lib.hid (fun W (hk : KeptBut w0 W g g) => (hk.block w.heap.size hbx.lt hgw1 hgw1).trans hbx)
  have HR := Lib.hid (fun W v L m' (hs : StL w0 W g C n cc m' v L) (hl : L.length ≤ 25) (hm' : m' ≤ m + 120) => (by
    obtain ⟨A', c', hv, ho⟩ := own_form hs.2.2.2.1
    exact ⟨L, A', c', by rw [hv], ho.mono hb0.size, hl, hs.2.2.2.2, hs.1.mono hm', KeptBut.pre hb0 hs.2.2.1⟩ : RetDl w g C n cc (m + 120) (.returned v) W))
  have HGd := Lib.hid (fun W (h : OwnS W Bs A X ∧ OwnS W Bs B Y) => l2Good_any A B c d X Y W h.1.ints h.2.ints bX bY (by omega) (by omega))
  have HE := Lib.hid (fun (hg : good X Y = true) W (h : OwnS W Bs A X ∧ OwnS W Bs B Y) => l2Ends_any A B c Y.length d X W h.1.ints (by omega) (good_iff.1 hg).2.1 (good_iff.1 hg).1.2.2)
  have HE1 := Lib.hid (fun (hg : good X Y = true) => (⟨ends_pos hg, Nat.le_trans (ends_len X) (good_len hg).2.1, fun j hj => by have := ends_bd X j hj; omega⟩ : 1 ≤ (endsL X).length ∧ (endsL X).length ≤ 24 ∧ ∀ j, j < (endsL X).length → 0 ≤ nth (endsL X) j ∧ nth (endsL X) j ≤ 25))
  have hbA : Below w0.heap.size w0 (w0.alloc (.cells #[] 3)) := (Below.refl _ _).alloc (Nat.le_refl _) _
  have hS0 : StL w0 (w0.alloc (.cells #[] 3)) g C n cc m (.slice (some ⟨w.heap.size + 1, 0, none⟩) 0 0) [] :=
    ⟨(h.below hb0).below hbA, (hB.below hb0).below hbA, kept_below (KeptBut.refl2 w0 g) hbA, own_empty w0 w0.heap.size (w.heap.size + 1) hs0.symm (by omega), Bd.nil⟩
  obtain ⟨r, hr⟩ : ∃ r, good X Y = r := ⟨_, rfl⟩
  rw [hr] at HGd
  have Hr := Lib.hid hr
  obtain ⟨i0, hi, hz0, hz1, hz2⟩ := info_parts info_int
  have t0 := BlkT.c0 (HX.out _ hS0.2.2.1)
  have t1 := BlkT.c1 (HX.out _ hS0.2.2.1)
  clear hne hC hC0 hB h hA hY hA0 hY0 hr bX bY hX hYl hgB hbA hb0 hbx hn hgw
  go_enter Try.func119, Try.ntmps119
  go_wp2_with fail
  rw [← hw0]
  refine (HGd.out _ (HI.out _ hS0.2.2.1)).mono ?_
  rintro e1 w1 ⟨rfl, hb⟩
  have hS := hS0.below hb
  clear hb t0 t1 hw0 hS0 HGd
  cases r with
  | false =>
    have hF := Lib.hid (HR.out _ _ _ _ hS (by simp) (by omega))
    clear hS HE HE1
    go_wp2
    go_ret
    exact hF.out
  | true =>
    obtain ⟨he1, he2, he3⟩ := HE1.out Hr.out
    have HBE := Lib.hid he3
    have t0 := BlkT.c0 (HX.out _ hS.2.2.1)
    have t1 := BlkT.c1 (HX.out _ hS.2.2.1)
    go_wp2_with fail
    refine (HE.out Hr.out _ (HI.out _ hS.2.2.1)).mono ?_
    rintro e1 w2 ⟨A4, c4, rfl, hoE, hb⟩
    generalize endsL X = EN at *
    obtain ⟨gE, rfl, hgE, hrE⟩ := hoE.pos he1
    have hvE : (Value.slice (some ⟨w.heap.size + 1, 0, none⟩) 0 0).ownBlock ≠ some gE := fun e => by have := (hS.2.2.2.1.lt gE e).2; omega
    have hgE0 : w0.heap.size ≤ gE := Nat.le_trans hS.2.2.1.size hgE
    have hgg : gE ≠ g := by omega
    replace hS := hS.below hb
    clear hb t0 t1 hoE he3 HE HE1 hgE hgE0
    go_wp2
    go_loopw [5, 7] (fun v i wr => ∃ (k : Nat) (L : List Int), k ≤ EN.length ∧ i = .int .i64 k ∧ L.length ≤ k ∧ StL w0 wr g C n cc (m + 2 * k) v L ∧ Row wr gE EN ∧ v.ownBlock ≠ some gE) (fun _ i _ => EN.length - (intOf i).toNat)
    case atStart => exact ⟨0, [], by omega, rfl, by simp, hS, hrE, hvE⟩
    case round =>
      clear hS hrE hvE
      obtain ⟨k, L, hk, rfl, hLk, hS, hrE, hvE⟩ := hrel
      by_cases hlt : k < EN.length
      case pos =>
        have i1 : (k : Int) < EN.length := by omega
        have i2 : 0 ≤ (k : Int) := by omega
        go_wp2_with fail
        refine (HO.out _ 2 _ _ _ hS (by omega) (by omega)).mono ?_
        rintro e1 w3 ⟨b1, rfl, hd⟩
        replace hrE := hrE.of_block (hd.2.block gE hrE.lt hgg hgg)
        replace hS := HD.out _ _ _ _ _ _ hS hd
        clear hd
        cases b1 with
        | false =>
          go_wp2
          go_roundw
          case rel => exact ⟨k + 1, L, by omega, by go_num, by omega, hS.mono (by omega), hrE, hvE⟩
          case measure => simp [intOf]; omega
        | true =>
          have hcE := hrE.cell hlt
          have hxx := HBE.out k hlt
          generalize nth EN k = x at *
          have hxb : -9223372036854775808 ≤ x ∧ x ≤ 9223372036854775807 := by omega
          have hown := hS.2.2.2.1
          have hsz := hS.2.2.1.size
          have hSa := hS.below ((Below.refl w3.heap.size w3).alloc (Nat.le_refl _) (.cells #[.int .i64 x] 3))
          have hlE := hrE.lt
          clear hS
          go_wp2_with (at_builtin; (refine wpList_append_own_at _ rfl _ _ 22 rfl (w0.heap.size) 3 i0 (.int .i64 0) 1 8 Try.underlying22 hi hz0 hz1 hz2 rfl (by decide) _ _ _ rfl (hown.alloc _) ⟨w3.heap.size, 0, none⟩ 1 1 [.int .i64 (x)] rfl rfl (cell_one_new _ _ _) (by simp [Value.oneCell']) (by unfold maxLen; omega) (by omega) (by simp; omega) ?_); intro v' w1 hown1 hgrow _ hat)
          have hS4 := HG.out _ _ _ _ _ _ _ hSa hgrow hown1 hxb
          have hrE4 := (hrE.below ((Below.refl w3.heap.size w3).alloc (Nat.le_refl _) (.cells #[.int .i64 x] 3))).grown hgrow (fun e => hvE e.symm)
          have hvE4 : v'.ownBlock ≠ some gE := by
            rcases hat with e | e
            · rw [e]; exact hvE
            · rw [e]; intro e2; injection e2 with e2; simp at e2; omega
          clear hSa hgrow hown1 hown hat hrE hvE hcE
          go_wp2
          go_roundw
          case rel => exact ⟨k + 1, L ++ [x], by omega, by go_num, by simp; omega, hS4.mono (by omega), hrE4, hvE4⟩
          case measure => simp [intOf]; omega
      have i1 : ¬ (k : Int) < EN.length := by omega
      have hlen : L.length ≤ 24 := by omega
      replace hS := hS.mono (m' := m + 50) (by omega)
      clear hrE hvE hlt
      go_wp2_with fail
      refine (HO.out _ 20 _ _ _ hS (by omega) (by omega)).mono ?_
      rintro e1 w3 ⟨b1, rfl, hd⟩
      replace hS := HD.out _ _ _ _ _ _ hS hd
      clear hd
      cases b1 with
      | false =>
        have hF := Lib.hid (HR.out _ _ _ _ hS (by omega) (by omega))
        clear hS
        go_wp2
        go_ret
        exact hF.out
      | true =>
        have t0 := BlkT.c0 (HX.out _ hS.2.2.1)
        have t1 := BlkT.c1 (HX.out _ hS.2.2.1)
        have hsz := hS.2.2.1.size
        go_wp2_with fail
        refine (HN.out _ _ hS.1 hS.2.1 (by omega) (by omega)).mono ?_
        rintro e1 w4 ⟨x, rfl, hxb, hd⟩
        replace hS := HD.out _ _ _ _ _ _ hS hd
        clear hd t0 t1 hsz
        have hown := hS.2.2.2.1
        have hsz := hS.2.2.1.size
        have hSa := hS.below ((Below.refl w4.heap.size w4).alloc (Nat.le_refl _) (.cells #[.int .i64 x] 3))
        clear hS
        go_wp2_with (at_builtin; (refine wpList_append_own_at _ rfl _ _ 22 rfl (w0.heap.size) 3 i0 (.int .i64 0) 1 8 Try.underlying22 hi hz0 hz1 hz2 rfl (by decide) _ _ _ rfl (hown.alloc _) ⟨w4.heap.size, 0, none⟩ 1 1 [.int .i64 (x)] rfl rfl (cell_one_new _ _ _) (by simp [Value.oneCell']) (by unfold maxLen; omega) (by omega) (by simp; omega) ?_); intro v' w1 hown1 hgrow _ hat)
        have hS4 := HG.out _ _ _ _ _ _ _ hSa hgrow hown1 hxb
        have hF := Lib.hid (HR.out _ _ _ _ hS4 (by simp; omega) (by omega))
        clear hSa hgrow hown1 hown hat hS4
        go_wp2
        go_ret
        exact hF.out
end Go.Proofs.Ytombfbmcplefgaa
/- Contracts: numbers of the ends, gathered; pays. -/
namespace Go.Proofs.Ytombfbmcplefgaa
open Go.ChangeShapes Go.WideShapes Go.ChangeAt Go.RowKit

/-- The first k numbers at their ends, times the weights; 0 elsewhere. -/
def sprL (n : Nat) (ys E vs : List Int) : Nat → List Int
  | 0 => List.replicate n 0
  | k + 1 => (sprL n ys E vs k).set (nth E k).toNat (nth ys (nth E k).toNat * nth vs k)
theorem sprL_len (n : Nat) (ys E vs : List Int) (k : Nat) : (sprL n ys E vs k).length = n := by
  induction k with
  | zero => simp [sprL]
  | succ k ih => rw [sprL, List.length_set, ih]
theorem sprL_bd {n : Nat} {ys E vs : List Int} {V : Nat} (hy : ∀ j, 0 ≤ nth ys j ∧ nth ys j ≤ 20) (hv : ∀ j, -(V : Int) ≤ nth vs j ∧ nth vs j ≤ V) (k j : Nat) : (nth (sprL n ys E vs k) j).natAbs ≤ 20 * V := by
  induction k generalizing j with
  | zero => rw [sprL, nth_zero]; simp
  | succ k ih =>
    rw [sprL]
    by_cases hp : (nth E k).toNat < (sprL n ys E vs k).length
    · rw [nth_set _ _ _ _ hp]
      split
      · have h1 := hy (nth E k).toNat
        have h2 := hv k
        have := mul_bd (A := 20) (D := V) (a := nth ys (nth E k).toNat) (d := nth vs k) (by omega) h2
        omega
      · exact ih j
    · rw [List.set_eq_of_length_le (by omega)]; exact ih j
def totL (xs ys vs : List Int) : List Int := gat xs (sprL xs.length ys (endsL xs) vs (endsL xs).length) (xs.length - 1)
theorem spr_ok {xs ys vs : List Int} (hg : good xs ys = true) {V : Nat} (hv : ∀ j, -(V : Int) ≤ nth vs j ∧ nth vs j ≤ V) : OkL (480 * V) (sprL xs.length ys (endsL xs) vs (endsL xs).length) (xs.length - 1) := by
  have hl := good_len hg
  have hb := fun j => sprL_bd (n := xs.length) (E := endsL xs) (fun j => good_wt hg j) hv (endsL xs).length j
  have h2 := asum_le hb (xs.length - 1 + 1)
  have h3 : (xs.length - 1 + 1) * (20 * V) ≤ 24 * (20 * V) := Nat.mul_le_mul_right _ (by omega)
  exact ⟨fun j => by have := hb j; omega, by omega⟩
theorem tot_bd {xs ys vs : List Int} (hg : good xs ys = true) {V : Nat} (hv : ∀ j, -(V : Int) ≤ nth vs j ∧ nth vs j ≤ V) (j : Nat) : -(480 * (V : Int)) ≤ nth (totL xs ys vs) j ∧ nth (totL xs ys vs) j ≤ 480 * (V : Int) := by
  have hl := good_len hg
  have := gat_ok (xs.length - 1) (good_up hg) (by rw [sprL_len]; omega) (spr_ok hg hv) j
  unfold totL; omega
theorem tot_len {xs ys vs : List Int} : (totL xs ys vs).length = xs.length := by
  unfold totL; rw [gat_len, sprL_len]

set_option maxHeartbeats 1000000 in
set_option maxRecDepth 100000 in
theorem spread_any {xs ys : List Int} (hg : good xs ys = true) (A B P : Option Addr) (c e cz : Nat) (vs : List Int) (w : World) (h : IntS w A xs) (k : IntS w B ys) (z : IntS w P vs) (hz : vs.length = (endsL xs).length) (V : Nat) (hV : V ≤ 1000000) (hv : ∀ j, -(V : Int) ≤ nth vs j ∧ nth vs j ≤ V) :
    Calls Try.prog 154 #[.agg #[.slice A xs.length c, .slice B ys.length e], .slice P vs.length cz] w (RetI w (sprL xs.length ys (endsL xs) vs (endsL xs).length)) := by
  have hgl := good_len hg
  have HE := Lib.hid (fun W (h : IntS W A xs) => ends_any A B c ys.length e xs W h (by omega) (good_iff.1 hg).2.1 (good_root hg))
  have HW := Lib.hid (fun q => good_wt hg q)
  have hel := ends_len xs
  have hep := ends_pos hg
  have HEM : Hid (∀ j, j < (endsL xs).length → ∃ y : Nat, nth (endsL xs) j = y ∧ y < xs.length) := fun j hj => by obtain ⟨y, h1, h2, _⟩ := ends_mem hj; exact ⟨y, h1, h2⟩
  have HV := Lib.hid hv
  obtain ⟨n, e1⟩ : ∃ n, xs.length = n := ⟨_, rfl⟩
  have e2 : ys.length = n := by rw [hgl.2.2]; exact e1
  have HVL := Lib.hid hz
  simp only [e1, e2, hz] at HE HEM hgl hel ⊢
  have HN := Lib.hid e1.symm
  have HY := Lib.hid e2.symm
  obtain ⟨hgl1, hgl2, _⟩ := hgl
  clear e1 e2 hz hv hg
  have hmk := run_makeI n (by omega)
  have HSL := Lib.hid (fun k => sprL_len n ys (endsL xs) vs k)
  have HS0 : Hid (sprL n ys (endsL xs) vs 0 = List.replicate n 0) := rfl
  have HSS : Hid (∀ k, sprL n ys (endsL xs) vs (k + 1) = (sprL n ys (endsL xs) vs k).set (nth (endsL xs) k).toNat (nth ys (nth (endsL xs) k).toNat * nth vs k)) := fun k => rfl
  generalize sprL n ys (endsL xs) vs = F at *
  generalize endsL xs = E at *
  go_enter Try.func154, Try.ntmps154
  go_wp2_with fail
  refine (HE.out _ ((h.alloc _).alloc _)).mono ?_
  rintro e1 w1 ⟨A1, c1, rfl, ho, hb1⟩
  have hx1 : w1.cell? ⟨w.heap.size, 1, none⟩ = some (.slice B n e) := keep_cell hb1 (by simp)
  have hrx : RowX w1 (w.heap.size + 1) (F 0) := by
    rw [HS0.out]
    exact (RowX.zero (w.alloc (.cells #[.slice A n c, .slice B n e] 28)) n (by simp)).below (hb1 : Below ((w.alloc _).alloc (.cells (Array.replicate n (Value.int .i64 0)) 3)).heap.size _ _)
  obtain ⟨gE, rfl, hgE, hE⟩ := ho.pos hep
  replace hgE : w.heap.size + 1 < gE := by simp at hgE; omega
  have hw : Below w.heap.size w w1 := below_alloc (below_alloc hb1)
  clear ho HE hb1 hmk
  go_wp2
  go_loopw [15] (fun i wr => ∃ j : Nat, j ≤ E.length ∧ i = .int .i64 j ∧ RowX wr (w.heap.size + 1) (F j) ∧ Row wr gE E ∧ wr.cell? ⟨w.heap.size, 1, none⟩ = some (.slice B n e) ∧ Below w.heap.size w wr) (fun i _ => E.length - (intOf i).toNat)
  case atStart => exact ⟨0, by omega, rfl, hrx, hE, hx1, hw⟩
  case round =>
    clear hrx hE hx1 hw
    obtain ⟨j, hj, rfl, hrx, hE, hx1, hw⟩ := hrel
    by_cases hlt : j < E.length
    · obtain ⟨y, hy, hyn⟩ := HEM.out j hlt
      have hcE := hE.cell hlt
      obtain ⟨b, o, rfl, hcv⟩ := (z.below hw).at_ (j := j) (by rw [HVL.out]; exact hlt)
      obtain ⟨b2, o2, rfl, hcy⟩ := (k.below hw).at_ (j := y) (by rw [← HY.out]; exact hyn)
      have hck := hrx.cell (j := y) (by rw [HSL.out]; exact hyn)
      have hfk := hrx.free y
      have v1 := HV.out j
      have v2 := HW.out y
      have hss := HSS.out j
      rw [hy, Int.toNat_natCast] at hss
      rw [hy] at hcE
      obtain ⟨a, ha⟩ : ∃ a, nth vs j = a := ⟨_, rfl⟩
      obtain ⟨q, hq⟩ : ∃ q, nth ys y = q := ⟨_, rfl⟩
      rw [ha, hq] at hss
      rw [ha] at hcv v1
      rw [hq] at hcy v2
      have v3 := mul_bd (A := 20) (D := V) (a := q) (d := a) (by omega) v1
      obtain ⟨m, hm⟩ : ∃ m, q * a = m := ⟨_, rfl⟩
      have u1 : IntKind.i64.wrap (a * q) = m := by rw [Int.mul_comm, hm]; exact IntWalk.i64_in _ (by omega)
      rw [hm] at hss
      have hlj : (j : Int) < E.length := by omega
      have hset := hrx.set y m
      rw [← hss] at hset
      have HX := Lib.hid hset
      have HB := Lib.hid (cell_far (g := w.heap.size + 1) (u := .int .i64 m) hx1 (by simp) y)
      have HR := Lib.hid ((KeptBut.refl2 wr (w.heap.size + 1)).setg y (.int .i64 m) |>.row hE (by omega) (by omega))
      have hb2 := below_far (g := w.heap.size + 1) (v := .int .i64 m) hw (by omega) y
      have hyi : (y : Int) < n := by omega
      clear hy ha hq hm hss hset hrx v1 v2 v3
      generalize F j = L at *
      go_wp2
      go_still_tail 13, (by kernel_rfl)
      change wpList _ _ _ _ _ wr.drew
      go_wp2
      go_roundw
      case rel => exact ⟨j + 1, by omega, by go_num, HX.out, HR.out, HB.out, hb2.drew⟩
      case measure => simp [intOf]; omega
    · have hje : j = E.length := by omega
      subst hje
      have hll := Lib.hid (HSL.out E.length)
      clear HSL HSS HS0 HV HW HEM
      go_wp2
      go_ret
      exact ⟨some ⟨w.heap.size + 1, 0, none⟩, n, by rw [hll.out]; rfl, .inr ⟨_, rfl, by omega, hrx.row⟩, hw⟩
/-- gathered(spread(..)) in one piece of facts. -/
theorem gath_good {xs ys : List Int} (hg : good xs ys = true) (A B P : Option Addr) (c e d : Nat) (vs : List Int) (w : World) (h : IntS w A xs) (V : Nat) (hV : V ≤ 1000000) (hv : ∀ j, -(V : Int) ≤ nth vs j ∧ nth vs j ≤ V) (k : IntS w P (sprL xs.length ys (endsL xs) vs (endsL xs).length)) :
    Calls Try.prog 141 #[.agg #[.slice A xs.length c, .slice B ys.length e], .slice P (sprL xs.length ys (endsL xs) vs (endsL xs).length).length d] w (RetI w (totL xs ys vs)) := by
  have hl := good_len hg
  rw [sprL_len]
  exact gathered_any A B P c ys.length e d xs _ w h k hl.1 (by omega) (good_iff.1 hg).2.1 (sprL_len _ _ _ _ _) (480 * V) (by omega) (spr_ok hg hv)
end Go.Proofs.Ytombfbmcplefgaa
/- Contracts: l2Totals, l2Pays, arePays. -/
namespace Go.Proofs.Ytombfbmcplefgaa
open Go.ChangeShapes Go.WideShapes Go.ChangeAt Go.RowKit

set_option maxHeartbeats 2000000 in
set_option maxRecDepth 100000 in
theorem l2Totals_any {xs ys : List Int} (hg : good xs ys = true) (A B P : Option Addr) (c e cz : Nat) (vs : List Int) (w : World) (h : IntS w A xs) (k : IntS w B ys) (z : IntS w P vs) (hz : vs.length = (endsL xs).length) (V : Nat) (hV : V ≤ 1000000) (hv : ∀ j, -(V : Int) ≤ nth vs j ∧ nth vs j ≤ V) :
    Calls Try.prog 134 #[.agg #[.slice A xs.length c, .slice B ys.length e], .slice P vs.length cz] w (RetI w (totL xs ys vs)) := by
  have hgl := good_len hg
  have HE := Lib.hid (fun W (h : IntS W A xs) => l2Ends_any A B c ys.length e xs W h (by omega) (good_iff.1 hg).2.1 (good_root hg))
  have HW := Lib.hid (fun q => good_wt hg q)
  have HU := Lib.hid (good_upL hg)
  have HO0 := Lib.hid (spr_ok hg hv)
  have hel := ends_len xs
  have hep := ends_pos hg
  have HEM : Hid (∀ j, j < (endsL xs).length → ∃ y : Nat, nth (endsL xs) j = y ∧ y < xs.length) := fun j hj => by obtain ⟨y, h1, h2, _⟩ := ends_mem hj; exact ⟨y, h1, h2⟩
  have HV := Lib.hid hv
  have HT : Hid (gat xs (sprL xs.length ys (endsL xs) vs (endsL xs).length) (xs.length - 1) = totL xs ys vs) := rfl
  have HTL : Hid ((totL xs ys vs).length = xs.length) := tot_len
  obtain ⟨n, e1⟩ : ∃ n, xs.length = n := ⟨_, rfl⟩
  have e2 : ys.length = n := by rw [hgl.2.2]; exact e1
  have HVL := Lib.hid hz
  simp only [e1, e2, hz] at HE HEM HO0 HT HTL HU hgl hel ⊢
  have HN := Lib.hid e1.symm
  have HY := Lib.hid e2.symm
  obtain ⟨hgl1, hgl2, _⟩ := hgl
  clear e1 e2 hz hv hg
  have hmk := run_makeI n (by omega)
  have HSL := Lib.hid (fun k => sprL_len n ys (endsL xs) vs k)
  have HS0 : Hid (sprL n ys (endsL xs) vs 0 = List.replicate n 0) := rfl
  have HSS : Hid (∀ k, sprL n ys (endsL xs) vs (k + 1) = (sprL n ys (endsL xs) vs k).set (nth (endsL xs) k).toNat (nth ys (nth (endsL xs) k).toNat * nth vs k)) := fun k => rfl
  generalize totL xs ys vs = R at *
  generalize sprL n ys (endsL xs) vs = F at *
  generalize endsL xs = E at *
  go_enter Try.func134, Try.ntmps134
  go_upto_region 2 with (fail)
  go_cut [5, 6] (fun s5 s6 wx => ∃ g gE c1 : Nat, s5 = .slice (some ⟨g, 0, none⟩) n n ∧ s6 = .slice (some ⟨gE, 0, none⟩) E.length c1 ∧ w.heap.size < g ∧ w.heap.size < gE ∧ g ≠ gE ∧ RowX wx g (F 0) ∧ Row wx gE E ∧ wx.cell? ⟨w.heap.size, 0, none⟩ = some (.slice A n c) ∧ wx.cell? ⟨w.heap.size, 1, none⟩ = some (.slice B n e) ∧ Below w.heap.size w wx)
  case first =>
    go_region_held3 (fun w' => w'.cell? ⟨w.heap.size, 0, none⟩ = some (.slice A n c) ∧ w'.cell? ⟨w.heap.size, 1, none⟩ = some (.slice B n e) ∧ w.heap.size < w'.heap.size ∧ Below w.heap.size w w')
      (first | (exact ⟨by simp, by simp, (by first | omega | (simp; done) | (simp; omega)), by (repeat (first | with_reducible exact Below.refl _ _ | with_reducible assumption | with_reducible refine Below.alloc' ?_ ?_ _ | with_reducible refine Below.setCell' ?_ ?_ _ | with_reducible refine Below.drewN' ?_ _ | with_reducible refine Below.drew ?_ | with_reducible refine Below.transA ?_ (by assumption) ?_ | omega | (focus (simp; done)) | (focus (simp; omega))))⟩) | (go_split_ands; exact ⟨keep_cell hb1 (by assumption), keep_cell hb1 (by assumption), Nat.lt_of_lt_of_le (by assumption) hb1.size, keep_below hb1 (by assumption)⟩) | (go_split_ands; exact ⟨by rw [World.cell?_alloc_lt _ _ _ (by assumption)]; assumption, by rw [World.cell?_alloc_lt _ _ _ (by assumption)]; assumption, by simp; omega, keep_below_alloc (by assumption) _⟩))
      ((go_at_call 78; refine (HE.out _ (h.below (by first | (go_split_ands; assumption) | (repeat (first | with_reducible exact Below.refl _ _ | with_reducible assumption | with_reducible refine Below.alloc' ?_ ?_ _ | with_reducible refine Below.setCell' ?_ ?_ _ | with_reducible refine Below.drewN' ?_ _ | with_reducible refine Below.drew ?_ | with_reducible refine Below.transA ?_ (by assumption) ?_ | omega | (focus (simp; done)) | (focus (simp; omega))))))).mono ?_; rintro e1 w1 ⟨A1, c1, rfl, ho, hb1⟩; obtain ⟨gE, rfl, hgE, hE⟩ := ho.pos hep; clear ho))
    all_goals
      go_wp2_with fail
      go_meet
      go_split_ands
      have hgl := hE.lt
      simp at hgE
      first
        | exact ⟨w.heap.size + 1, gE, c1, rfl, rfl, by omega, by omega, by omega, by rw [HS0.out]; exact (RowX.zero (w.alloc (.cells #[.slice A n c, .slice B n e] 28)) n (by simp)).below (show Below ((w.alloc _).alloc (.cells (Array.replicate n (Value.int .i64 0)) 3)).heap.size _ _ from ⟨hb1.os, hb1.tape, hb1.output, hb1.size, hb1.block⟩), hE, by assumption, by assumption, by assumption⟩
        | exact ⟨w1.heap.size, gE, c1, rfl, rfl, by omega, by omega, by omega, by rw [HS0.out]; exact RowX.zero w1 n rfl, hE.alloc _, by assumption, by assumption, by assumption⟩
  case rest =>
    obtain ⟨g, gE, c1, rfl, rfl, hwg, hgE, hgg, hrx, hE, hx0, hx1, hw⟩ := hcut
    clear HE HS0 hmk
    go_wp2
    go_loopw [7] (fun i wr => ∃ j : Nat, j ≤ E.length ∧ i = .int .i64 j ∧ RowX wr g (F j) ∧ Row wr gE E ∧ wr.cell? ⟨w.heap.size, 0, none⟩ = some (.slice A n c) ∧ wr.cell? ⟨w.heap.size, 1, none⟩ = some (.slice B n e) ∧ Below w.heap.size w wr) (fun i _ => E.length - (intOf i).toNat)
    case atStart => exact ⟨0, by omega, rfl, hrx, hE, hx0, hx1, hw⟩
    case round =>
      clear hrx hE hx0 hx1 hw
      obtain ⟨j, hj, rfl, hrx, hE, hx0, hx1, hw⟩ := hrel
      by_cases hlt : j < E.length
      · obtain ⟨y, hy, hyn⟩ := HEM.out j hlt
        have hcE := hE.cell hlt
        obtain ⟨b, o, rfl, hcv⟩ := (z.below hw).at_ (j := j) (by rw [HVL.out]; exact hlt)
        obtain ⟨b2, o2, rfl, hcy⟩ := (k.below hw).at_ (j := y) (by rw [← HY.out]; exact hyn)
        have hck := hrx.cell (j := y) (by rw [HSL.out]; exact hyn)
        have hfk := hrx.free y
        have v1 := HV.out j
        have v2 := HW.out y
        have hss := HSS.out j
        rw [hy, Int.toNat_natCast] at hss
        rw [hy] at hcE
        obtain ⟨a, ha⟩ : ∃ a, nth vs j = a := ⟨_, rfl⟩
        obtain ⟨q, hq⟩ : ∃ q, nth ys y = q := ⟨_, rfl⟩
        rw [ha, hq] at hss
        rw [ha] at hcv v1
        rw [hq] at hcy v2
        have v3 := mul_bd (A := 20) (D := V) (a := q) (d := a) (by omega) v1
        obtain ⟨m, hm⟩ : ∃ m, q * a = m := ⟨_, rfl⟩
        have u1 : IntKind.i64.wrap (q * a) = m := by rw [hm]; exact IntWalk.i64_in _ (by omega)
        rw [hm] at hss
        have hlj : (j : Int) < E.length := by omega
        have hset := hrx.set y m
        rw [← hss] at hset
        have HX := Lib.hid hset
        have HB0 := Lib.hid (cell_far (g := g) (u := .int .i64 m) hx0 (by simp; omega) y)
        have HB := Lib.hid (cell_far (g := g) (u := .int .i64 m) hx1 (by simp; omega) y)
        have HR := Lib.hid ((KeptBut.refl2 wr g).setg y (.int .i64 m) |>.row hE (by omega) (by omega))
        have hb2 := below_far (g := g) (v := .int .i64 m) hw (by omega) y
        have hyi : (y : Int) < n := by omega
        clear hy ha hq hm hss hset hrx v1 v2 v3
        generalize F j = L at *
        go_wp2
        go_still_tail 19, (by kernel_rfl)
        change wpList _ _ _ _ _ wr.drew
        go_wp2
        go_roundw
        case rel => exact ⟨j + 1, by omega, by go_num, HX.out, HR.out, HB0.out, HB.out, hb2.drew⟩
        case measure => simp [intOf]; omega
      · have hje : j = E.length := by omega
        subst hje
        have HL0 := Lib.hid (HSL.out E.length)
        generalize F E.length = L0 at *
        clear HSL HSS HV HW HEM hE
        go_wp2
        go_loopw [8] (fun i wr => ∃ (j : Nat) (L : List Int), j < n ∧ i = .int .i64 j ∧ RowX wr g L ∧ L.length = n ∧ Hid (gat xs L j = R) ∧ Hid (OkL (480 * V) L j) ∧ wr.cell? ⟨w.heap.size, 0, none⟩ = some (.slice A n c) ∧ Below w.heap.size w wr) (fun i _ => (intOf i).toNat)
        case atStart => exact ⟨n - 1, L0, by omega, by go_num, hrx, HL0.out, HT, HO0, hx0, hw⟩
        case round =>
          clear hrx HT HO0 hx0 hx1 hw HL0
          obtain ⟨j, L, hj, rfl, hrow, hl, HR, HO, hbx, hb1⟩ := hrel
          have HL : Hid (L.length = n) := hl
          clear hl
          by_cases hz : j = 0
          case neg =>
            obtain ⟨j, rfl⟩ : ∃ i, j = i + 1 := ⟨j - 1, by omega⟩
            clear hz
            obtain ⟨b, o, rfl, hc⟩ := (h.below hb1).at_ (j := j + 1) (by rw [← HN.out]; exact hj)
            obtain ⟨p, hp, hpk⟩ := HU.out (j + 1) (by omega) hj
            rw [hp] at hc
            have hcp := hrow.cell (j := p) (by rw [HL.out]; omega)
            have hck := hrow.cell (j := j + 1) (by rw [HL.out]; omega)
            have hfp := hrow.free p
            have hb2 := below_far (v := .int .i64 (nth L p + nth L (j + 1))) hb1 (g := g) (by omega) p
            have hbx' := cell_far (u := .int .i64 (nth L p + nth L (j + 1))) hbx (g := g) (by simp; omega) p
            have hrow' := hrow.set p (nth L p + nth L (j + 1))
            have HO' := Lib.hid (HO.out.step (p := p) (by omega) (by rw [HL.out]; omega))
            have HR' := HR.out
            rw [gat, hp] at HR'
            have HR2 := Lib.hid HR'
            have hb3 := HO.out.1 p
            have hb4 := HO.out.1 (j + 1)
            have HX := Lib.hid hbx'
            have HZ := Lib.hid hrow'
            have HL' : Hid ((L.set p (nth L p + nth L (j + 1))).length = n) := by show _ = _; rw [List.length_set]; exact HL.out
            obtain ⟨a, ha⟩ : ∃ a, nth L p = a := ⟨_, rfl⟩
            obtain ⟨q, hq⟩ : ∃ q, nth L (j + 1) = q := ⟨_, rfl⟩
            rw [ha, hq] at HL' HZ HX HO' hb2
            have HR3 : Hid (gat xs (L.set p (a + q)) j = R) := by show _ = _; rw [← ha, ← hq]; exact HR2.out
            rw [ha] at hcp hb3
            rw [hq] at hck hb4
            clear ha hq HR' HR2 hbx' hrow' HR HO hp HL hrow
            go_wp2
            go_region
            go_wp2
            go_roundw
            case rel => exact ⟨j, L.set p (a + q), by omega, by go_num, HZ.out, HL'.out, HR3, HO', HX.out, Below.drew hb2⟩
            case measure => simp [intOf]
          case pos =>
            have hLR : L = R := by have := HR.out; rw [hz] at this; exact this
            subst hLR
            clear HR HO
            go_wp2
            go_ret
            exact ⟨some ⟨g, 0, none⟩, n, by rw [HL.out]; rfl, .inr ⟨g, rfl, by omega, hrow.row⟩, hb1⟩
end Go.Proofs.Ytombfbmcplefgaa
/- Contracts: lists of pays. -/
namespace Go.Proofs.Ytombfbmcplefgaa
open Go.ChangeShapes Go.WideShapes Go.ChangeAt Go.RowKit

/-- Pays of a valid tree. -/
def payB (xs zs : List Int) : Bool := decide (zs.length = (endsL xs).length) && allIn zs (-999) 999
theorem pay_iff {xs zs : List Int} (h : payB xs zs = true) : zs.length = (endsL xs).length ∧ ∀ j, -999 ≤ nth zs j ∧ nth zs j ≤ 999 := by
  unfold payB at h
  rw [Bool.and_eq_true] at h
  exact ⟨of_decide_eq_true h.1, allIn_nth h.2 (by omega)⟩
set_option maxHeartbeats 1000000 in
set_option maxRecDepth 100000 in
theorem l2Pays_any (A B P : Option Addr) (c e cz : Nat) (xs ys zs : List Int) (w : World) (h : IntS w A xs) (k : IntS w B ys) (z : IntS w P zs) (hx : Bd xs) (hy : Bd ys) (hn : xs.length ≤ 1048576) (hm : ys.length ≤ 1048576) (hz : zs.length ≤ 1048576) :
    Calls Try.prog 89 #[.agg #[.slice A xs.length c, .slice B ys.length e], .slice P zs.length cz] w fun e1 w' => e1 = .returned (.bool (good xs ys && payB xs zs)) ∧ Below w.heap.size w w' := by
  obtain ⟨g, hg⟩ : ∃ g, good xs ys = g := ⟨_, rfl⟩
  have HL := Lib.hid (fun W (h : IntS W A xs) (k : IntS W B ys) => l2Good_r hg A B c e W h k hx hy hn hm)
  have HE : Hid (g = true → ∀ W, IntS W A xs → Calls Try.prog 78 #[.agg #[.slice A xs.length c, .slice B ys.length e]] W (RetI W (endsL xs))) := fun e1 W h => by
    have hg' := hg.trans e1
    exact l2Ends_any A B c ys.length e xs W h (by have := good_len hg'; omega) (good_iff.1 hg').2.1 (good_root hg')
  clear hx hy
  rw [hg]
  clear hg
  generalize hr : (g && payB xs zs) = r
  have HR := Lib.hid hr
  clear hr
  go_enter Try.func89, Try.ntmps89
  go_wp2
  go_loop [5] (fun i => ∃ k : Nat, k ≤ zs.length ∧ i = .int .i64 k ∧ Hid (∀ j, j < k → -999 ≤ nth zs j ∧ nth zs j ≤ 999)) (fun i => zs.length - (intOf i).toNat)
  case atStart => exact ⟨0, Nat.zero_le _, rfl, fun j hj => by omega⟩
  case round =>
    obtain ⟨j, hj, rfl, HA⟩ := hrel
    by_cases hlt : j < zs.length
    · obtain ⟨b, o, rfl, hc⟩ := z.at_ (j := j) hlt
      have hb : b < w.heap.size := World.block_lt_of_cell? w _ hc
      by_cases hzj : -999 ≤ nth zs j ∧ nth zs j ≤ 999
      · have HA' : Hid (∀ q, q < j + 1 → -999 ≤ nth zs q ∧ nth zs q ≤ 999) := fun q hq => by
          by_cases e : q = j
          · subst e; exact hzj
          · exact HA.out q (by omega)
        go_wp2_with (go_at_call 115; refine (l1In_yes _ _ _ _ hzj.1 hzj.2).mono ?_; rintro e w' ⟨rfl, rfl⟩)
        go_round
        case rel => exact ⟨j + 1, by omega, by go_num, HA'⟩
        case measure => simp [intOf]; omega
      · have hr : r = false := by rw [← HR.out]; unfold payB; rw [allIn_no hlt hzj]; simp
        subst hr
        go_wp2_with (go_at_call 115; refine (l1In_no _ _ _ _ hzj).mono ?_; rintro e w' ⟨rfl, rfl⟩)
        go_ret
        exact ⟨rfl, by (repeat (first | with_reducible exact Below.refl _ _ | with_reducible assumption | with_reducible refine Below.alloc' ?_ ?_ _ | with_reducible refine Below.setCell' ?_ ?_ _ | with_reducible refine Below.drewN' ?_ _ | with_reducible refine Below.drew ?_ | with_reducible refine Below.transA ?_ (by assumption) ?_ | omega | (focus (simp; done)) | (focus (simp; omega))))⟩
    · have hall : allIn zs (-999) 999 = true := allIn_yes fun q hq => HA.out q (by omega)
      have HR' : Hid ((g && decide (zs.length = (endsL xs).length)) = r) := by
        have := HR.out; unfold payB at this; rw [hall] at this; show _ = _; simpa using this
      clear HR HA hall
      cases g
      · have hr : r = false := by rw [← HR'.out]; rfl
        subst hr
        go_wp2_with fail
        refine (HL.out _ (h.alloc _) (k.alloc _)).mono ?_
        rintro e1 w1 ⟨rfl, hb1⟩
        go_wp2
        go_ret
        exact ⟨rfl, below_alloc hb1⟩
      · have HE' := Lib.hid (HE.out rfl)
        generalize endsL xs = E at *
        go_wp2_with fail
        refine (HL.out _ (h.alloc _) (k.alloc _)).mono ?_
        rintro e1 w1 ⟨rfl, hb1⟩
        have hx0 : w1.cell? ⟨w.heap.size, 0, none⟩ = some (.slice A xs.length c) := keep_cell hb1 (by simp)
        have hx1 : w1.cell? ⟨w.heap.size, 1, none⟩ = some (.slice B ys.length e) := keep_cell hb1 (by simp)
        have hw : Below w.heap.size w w1 := below_alloc hb1
        clear hb1
        go_wp2_with fail
        refine (HE'.out _ (h.below hw)).mono ?_
        rintro e1 w2 ⟨A1, c1, rfl, ho, hb2⟩
        clear ho
        by_cases hl : zs.length = E.length
        · have hr : r = true := by rw [← HR'.out]; simp [hl]
          subst hr
          have hd : ((zs.length : Int) == (E.length : Int)) = true := by rw [beq_iff_eq]; omega
          clear hl HR' HE
          go_wp2
          go_ret
          exact ⟨rfl, keep_below hb2 hw⟩
        · have hr : r = false := by rw [← HR'.out]; simp [hl]
          subst hr
          have hd : ((zs.length : Int) == (E.length : Int)) = false := by rw [beq_eq_false_iff_ne]; omega
          clear hl HR' HE
          go_wp2
          go_ret
          exact ⟨rfl, keep_below hb2 hw⟩
set_option maxHeartbeats 1000000 in
theorem arePays_good {xs ys : List Int} (hg : good xs ys = true) (A B P : Option Addr) (c m e cz : Nat) (zs : List Int) (w : World) (h : IntS w A xs) (z : IntS w P zs) (hz : zs.length ≤ 1048576) :
    Calls Try.prog 91 #[.agg #[.slice A xs.length c, .slice B m e], .slice P zs.length cz] w fun e1 w' => e1 = .returned (.bool (payB xs zs)) ∧ Below w.heap.size w w' := by
  have HE := Lib.hid (fun W (h : IntS W A xs) => ends_any A B c m e xs W h (by have := good_len hg; omega) (good_iff.1 hg).2.1 (good_root hg))
  have HI := Lib.hid (fun W (z : IntS W P zs) => allWithin_any P cz zs (-999) 999 W z (by unfold maxLen; omega))
  have hel := ends_len xs
  have hgl := (good_len hg).2.1
  unfold payB
  generalize allIn zs (-999) 999 = r at *
  generalize endsL xs = E at *
  clear hg
  by_cases hl : zs.length = E.length
  · have hd : ((zs.length : Int) == (E.length : Int)) = true := by rw [beq_iff_eq]; omega
    rw [decide_eq_true hl, Bool.true_and]
    clear hl
    go_enter Try.func91, Try.ntmps91
    go_wp2_with fail
    refine (HE.out _ (h.alloc _)).mono ?_
    rintro e1 w1 ⟨A1, c1, rfl, ho, hb1⟩
    have hw : Below w.heap.size w w1 := below_alloc hb1
    clear ho
    go_wp2_with fail
    refine (HI.out _ (z.below hw)).mono ?_
    rintro e1 w2 ⟨rfl, rfl⟩
    go_wp2
    go_ret
    exact ⟨rfl, hw⟩
  · have hd : ((zs.length : Int) == (E.length : Int)) = false := by rw [beq_eq_false_iff_ne]; omega
    rw [decide_eq_false hl, Bool.false_and]
    clear hl
    go_enter Try.func91, Try.ntmps91
    go_wp2_with fail
    refine (HE.out _ (h.alloc _)).mono ?_
    rintro e1 w1 ⟨A1, c1, rfl, ho, hb1⟩
    have hw : Below w.heap.size w w1 := below_alloc hb1
    clear ho
    go_wp2
    go_ret
    exact ⟨rfl, hw⟩
end Go.Proofs.Ytombfbmcplefgaa
/- Contracts: covariances. -/
namespace Go.Proofs.Ytombfbmcplefgaa
open Go.ChangeShapes Go.WideShapes Go.ChangeAt Go.RowKit

/-- The products of the first k numbers of two lists. -/
def prdL (ps qs : List Int) (k : Nat) : List Int := (List.range k).map fun j => nth ps j * nth qs j
theorem prdL_succ (ps qs : List Int) (k : Nat) : prdL ps qs (k + 1) = prdL ps qs k ++ [nth ps k * nth qs k] := by
  unfold prdL; rw [List.range_succ, List.map_append]; rfl
theorem prdL_len (ps qs : List Int) (k : Nat) : (prdL ps qs k).length = k := by simp [prdL]
theorem prdL_bd {ps qs : List Int} (hp : ∀ j, -999 ≤ nth ps j ∧ nth ps j ≤ 999) (hq : ∀ j, -999 ≤ nth qs j ∧ nth qs j ≤ 999) (k j : Nat) : -((998001 : Nat) : Int) ≤ nth (prdL ps qs k) j ∧ nth (prdL ps qs k) j ≤ ((998001 : Nat) : Int) := by
  by_cases h : j < k
  · have e : nth (prdL ps qs k) j = nth ps j * nth qs j := by simp [prdL, nth, List.getD, h]
    rw [e]
    have := mul_bd (A := 999) (D := 999) (hp j) (hq j)
    omega
  · rw [nth_out (by rw [prdL_len]; omega)]; omega
def covA (xs ys ps qs : List Int) : Int := nth (totL xs ys (prdL ps qs ps.length)) 0 * nth (sumsL xs ys) 0 - nth (totL xs ys ps) 0 * nth (totL xs ys qs) 0
def covB (xs ys : List Int) : Int := nth (sumsL xs ys) 0 * nth (sumsL xs ys) 0
noncomputable def covOk (xs ys ps qs : List Int) : Bool := good xs ys && payB xs ps && payB xs qs
noncomputable def covN (xs ys ps qs : List Int) : Int := if covOk xs ys ps qs then lowN (covA xs ys ps qs) (covB xs ys) else 0
noncomputable def covM (xs ys ps qs : List Int) : Int := if covOk xs ys ps qs then lowM (covA xs ys ps qs) (covB xs ys) else 0
noncomputable def covR (xs ys ps qs : List Int) : Bool := covOk xs ys ps qs && lowOk (covA xs ys ps qs) (covB xs ys)
theorem covN_no {xs ys ps qs : List Int} (h : covOk xs ys ps qs = false) : covN xs ys ps qs = 0 := by unfold covN; rw [h]; rfl
theorem covM_no {xs ys ps qs : List Int} (h : covOk xs ys ps qs = false) : covM xs ys ps qs = 0 := by unfold covM; rw [h]; rfl
theorem covR_no {xs ys ps qs : List Int} (h : covOk xs ys ps qs = false) : covR xs ys ps qs = false := by unfold covR; rw [h]; rfl
theorem covN_yes {xs ys ps qs : List Int} (h : covOk xs ys ps qs = true) : covN xs ys ps qs = lowN (covA xs ys ps qs) (covB xs ys) := by unfold covN; rw [h]; rfl
theorem covM_yes {xs ys ps qs : List Int} (h : covOk xs ys ps qs = true) : covM xs ys ps qs = lowM (covA xs ys ps qs) (covB xs ys) := by unfold covM; rw [h]; rfl
theorem covR_yes {xs ys ps qs : List Int} (h : covOk xs ys ps qs = true) : covR xs ys ps qs = lowOk (covA xs ys ps qs) (covB xs ys) := by unfold covR; rw [h]; rfl
/-- Bounds of what a covariance is made of. -/
theorem cov_bd {xs ys ps qs : List Int} (hg : good xs ys = true) (hp : payB xs ps = true) (hq : payB xs qs = true) :
    (-479040480 ≤ nth (totL xs ys (prdL ps qs ps.length)) 0 ∧ nth (totL xs ys (prdL ps qs ps.length)) 0 ≤ 479040480) ∧ (-479520 ≤ nth (totL xs ys ps) 0 ∧ nth (totL xs ys ps) 0 ≤ 479520) ∧ (-479520 ≤ nth (totL xs ys qs) 0 ∧ nth (totL xs ys qs) 0 ≤ 479520) ∧ 1 ≤ nth (sumsL xs ys) 0 ∧ nth (sumsL xs ys) 0 ≤ 480 := by
  have h1 := tot_bd hg (vs := prdL ps qs ps.length) (V := 998001) (prdL_bd (pay_iff hp).2 (pay_iff hq).2 _) 0
  have h2 := tot_bd hg (vs := ps) (V := 999) (fun j => by have := (pay_iff hp).2 j; omega) 0
  have h3 := tot_bd hg (vs := qs) (V := 999) (fun j => by have := (pay_iff hq).2 j; omega) 0
  have h4 := sums_bd hg 0
  have h5 := sums_root hg
  omega
theorem l2Pays_good {xs ys : List Int} (hg : good xs ys = true) (A B P : Option Addr) (c e cz : Nat) (zs : List Int) (w : World) (h : IntS w A xs) (k : IntS w B ys) (z : IntS w P zs) (hx : Bd xs) (hy : Bd ys) (hn : xs.length ≤ 1048576) (hm : ys.length ≤ 1048576) (hz : zs.length ≤ 1048576) :
    Calls Try.prog 89 #[.agg #[.slice A xs.length c, .slice B ys.length e], .slice P zs.length cz] w fun e1 w' => e1 = .returned (.bool (payB xs zs)) ∧ Below w.heap.size w w' := by
  have := l2Pays_any A B P c e cz xs ys zs w h k z hx hy hn hm hz
  rw [hg, Bool.true_and] at this
  exact this
set_option maxHeartbeats 1000000 in
set_option maxRecDepth 100000 in
theorem specCovarianceOf_any (A B : Option Addr) (c e : Nat) (xs ys : List Int) (P : Option Addr) (cp : Nat) (ps : List Int) (Q : Option Addr) (cq : Nat) (qs : List Int) (w : World) (h : IntS w A xs) (k : IntS w B ys) (zp : IntS w P ps) (zq : IntS w Q qs) (_hx : Bd xs) (_hy : Bd ys) (_bp : Bd ps) (_bq : Bd qs) (hn : xs.length ≤ 1048576) (hm : ys.length ≤ 1048576) (lp : ps.length ≤ 1048576) (lq : qs.length ≤ 1048576) :
    Calls Try.prog 67 #[.agg #[.slice A xs.length c, .slice B ys.length e], .slice P ps.length cp, .slice Q qs.length cq] w (RetAB w (covN xs ys ps qs) (covM xs ys ps qs) (covR xs ys ps qs)) := by
  obtain ⟨r1, q1⟩ : ∃ r, (good xs ys && payB xs ps) = r := ⟨_, rfl⟩
  cases r1
  case false =>
    have hO : covOk xs ys ps qs = false := by unfold covOk ; simp [q1]
    have hV_covN := covN_no hO
    have hV_covM := covM_no hO
    have hV_covR := covR_no hO
    rw [hV_covN]
    rw [hV_covM]
    rw [hV_covR]
    (try rw [hO])
    clear hO hV_covN hV_covM hV_covR
    have HG1 := Lib.hid (fun W (h : IntS W A xs) (k : IntS W B ys) (zp : IntS W P ps) => l2Pays_any A B P c e cp xs ys ps W h k zp _hx _hy hn hm lp)
    rw [q1] at HG1
    clear q1 _hx _hy _bp _bq
    go_enter Try.func67, Try.ntmps67
    go_wp2_with fail
    refine (HG1.out _ ((h.alloc _).alloc _) ((k.alloc _).alloc _) ((zp.alloc _).alloc _)).mono ?_
    rintro e1 w1 ⟨rfl, hb⟩
    have hx0 : w1.cell? ⟨w.heap.size, 0, none⟩ = some (.slice A xs.length c) := keep_cell hb (by simp)
    have hx1 : w1.cell? ⟨w.heap.size, 1, none⟩ = some (.slice B ys.length e) := keep_cell hb (by simp)
    have hr0 : w1.cell? ⟨w.heap.size + 1, 0, none⟩ = some (.int .i64 0) := keep_cell hb (by simp)
    have hr1 : w1.cell? ⟨w.heap.size + 1, 1, none⟩ = some (.int .i64 0) := keep_cell hb (by simp)
    have hf0 : w1.frozen? ⟨w.heap.size + 1, 0, none⟩ = false := keep_froz hb (by simp) (by simp)
    have hf1 : w1.frozen? ⟨w.heap.size + 1, 1, none⟩ = false := keep_froz hb (by simp) (by simp)
    have hw : Below w.heap.size w w1 := below_alloc (below_alloc (hb))
    clear hb
    go_wp2
    refine bodyPost_ret (v := .tuple #[.agg #[.int .i64 0, .int .i64 0], .bool false]) (by simp (maxDischargeDepth := 9) [results, Try.results67, go_sem, *]) rfl ⟨rfl, ?_⟩
    (repeat (first | with_reducible exact Below.refl _ _ | with_reducible assumption | with_reducible refine Below.alloc' ?_ ?_ _ | with_reducible refine Below.setCell' ?_ ?_ _ | with_reducible refine Below.drewN' ?_ _ | with_reducible refine Below.drew ?_ | with_reducible refine Below.transA ?_ (by assumption) ?_ | omega | (focus (simp; done)) | (focus (simp; omega))))
  case true =>
    obtain ⟨r2, q2⟩ : ∃ r, (payB xs qs) = r := ⟨_, rfl⟩
    cases r2
    case false =>
      have hO : covOk xs ys ps qs = false := by unfold covOk ; simp [q1, q2]
      have hV_covN := covN_no hO
      have hV_covM := covM_no hO
      have hV_covR := covR_no hO
      rw [hV_covN]
      rw [hV_covM]
      rw [hV_covR]
      (try rw [hO])
      clear hO hV_covN hV_covM hV_covR
      have HG1 := Lib.hid (fun W (h : IntS W A xs) (k : IntS W B ys) (zp : IntS W P ps) => l2Pays_any A B P c e cp xs ys ps W h k zp _hx _hy hn hm lp)
      rw [q1] at HG1
      have HG2 := Lib.hid (fun W (h : IntS W A xs) (k : IntS W B ys) (zq : IntS W Q qs) => l2Pays_good (Bool.and_eq_true_iff.1 q1).1 A B Q c e cq qs W h k zq _hx _hy hn hm lq)
      rw [q2] at HG2
      clear q1 q2 _hx _hy _bp _bq
      go_enter Try.func67, Try.ntmps67
      go_wp2_with fail
      refine (HG1.out _ ((h.alloc _).alloc _) ((k.alloc _).alloc _) ((zp.alloc _).alloc _)).mono ?_
      rintro e1 w1 ⟨rfl, hb⟩
      have hx0 : w1.cell? ⟨w.heap.size, 0, none⟩ = some (.slice A xs.length c) := keep_cell hb (by simp)
      have hx1 : w1.cell? ⟨w.heap.size, 1, none⟩ = some (.slice B ys.length e) := keep_cell hb (by simp)
      have hr0 : w1.cell? ⟨w.heap.size + 1, 0, none⟩ = some (.int .i64 0) := keep_cell hb (by simp)
      have hr1 : w1.cell? ⟨w.heap.size + 1, 1, none⟩ = some (.int .i64 0) := keep_cell hb (by simp)
      have hf0 : w1.frozen? ⟨w.heap.size + 1, 0, none⟩ = false := keep_froz hb (by simp) (by simp)
      have hf1 : w1.frozen? ⟨w.heap.size + 1, 1, none⟩ = false := keep_froz hb (by simp) (by simp)
      have hw : Below w.heap.size w w1 := below_alloc (below_alloc (hb))
      clear hb
      go_wp2_with fail
      refine (HG2.out _ (h.below hw) (k.below hw) (zq.below hw)).mono ?_
      rintro e1 w2 ⟨rfl, hb⟩
      replace hx0 := keep_cell hb hx0
      replace hx1 := keep_cell hb hx1
      replace hf0 := keep_froz hb (by rw [hr0]; rfl) hf0
      replace hf1 := keep_froz hb (by rw [hr1]; rfl) hf1
      replace hr0 := keep_cell hb hr0
      replace hr1 := keep_cell hb hr1
      replace hw := keep_below hb hw
      clear hb
      go_wp2
      refine bodyPost_ret (v := .tuple #[.agg #[.int .i64 0, .int .i64 0], .bool false]) (by simp (maxDischargeDepth := 9) [results, Try.results67, go_sem, *]) rfl ⟨rfl, ?_⟩
      (repeat (first | with_reducible exact Below.refl _ _ | with_reducible assumption | with_reducible refine Below.alloc' ?_ ?_ _ | with_reducible refine Below.setCell' ?_ ?_ _ | with_reducible refine Below.drewN' ?_ _ | with_reducible refine Below.drew ?_ | with_reducible refine Below.transA ?_ (by assumption) ?_ | omega | (focus (simp; done)) | (focus (simp; omega))))
    case true =>
      have hO : covOk xs ys ps qs = true := by unfold covOk ; simp [q1, q2]
      have hV_covN := covN_yes hO
      have hV_covM := covM_yes hO
      have hV_covR := covR_yes hO
      rw [hV_covN]
      rw [hV_covM]
      rw [hV_covR]
      (try rw [hO])
      clear hO hV_covN hV_covM hV_covR
      have HG1 := Lib.hid (fun W (h : IntS W A xs) (k : IntS W B ys) (zp : IntS W P ps) => l2Pays_any A B P c e cp xs ys ps W h k zp _hx _hy hn hm lp)
      rw [q1] at HG1
      have HG2 := Lib.hid (fun W (h : IntS W A xs) (k : IntS W B ys) (zq : IntS W Q qs) => l2Pays_good (Bool.and_eq_true_iff.1 q1).1 A B Q c e cq qs W h k zq _hx _hy hn hm lq)
      rw [q2] at HG2
      have hpp := (pay_iff (Bool.and_eq_true_iff.1 q1).2).2
      have hqq := (pay_iff q2).2
      have lp1 := (pay_iff (Bool.and_eq_true_iff.1 q1).2).1
      have lq1 := (pay_iff q2).1
      have hel := ends_len xs
      have hgl := good_len (Bool.and_eq_true_iff.1 q1).1
      have hcb := cov_bd (Bool.and_eq_true_iff.1 q1).1 (Bool.and_eq_true_iff.1 q1).2 q2
      have HL : Hid (1 ≤ (sumsL xs ys).length) := by have := sums_len (Bool.and_eq_true_iff.1 q1).1; show 1 ≤ _; omega
      have HTL : Hid (∀ vs, (totL xs ys vs).length = xs.length) := fun vs => tot_len
      have HSu := Lib.hid (fun W (h : IntS W A xs) (k : IntS W B ys) => l2Sums_good (Bool.and_eq_true_iff.1 q1).1 A B c e W h k)
      have HTP := Lib.hid (fun W (h : IntS W A xs) (k : IntS W B ys) (z : IntS W P ps) => l2Totals_any (Bool.and_eq_true_iff.1 q1).1 A B P c e cp ps W h k z lp1 999 (by omega) (fun j => by have := hpp j; omega))
      have HTQ := Lib.hid (fun W (h : IntS W A xs) (k : IntS W B ys) (z : IntS W Q qs) => l2Totals_any (Bool.and_eq_true_iff.1 q1).1 A B Q c e cq qs W h k z lq1 999 (by omega) (fun j => by have := hqq j; omega))
      have HTO := Lib.hid (fun W (R : Option Addr) (cr : Nat) (h : IntS W A xs) (k : IntS W B ys) (z : IntS W R (prdL ps qs ps.length)) => l2Totals_any (Bool.and_eq_true_iff.1 q1).1 A B R c e cr (prdL ps qs ps.length) W h k z (by rw [prdL_len]; exact lp1) 998001 (by omega) (prdL_bd hpp hqq _))
      have HPL := Lib.hid (fun k => prdL_len ps qs k)
      have HPS := Lib.hid (fun k => prdL_succ ps qs k)
      have HP0 : Hid (prdL ps qs 0 = []) := rfl
      have HPB := Lib.hid (fun j => And.intro (hpp j) (hqq j))
      have HN1 : Hid (1 ≤ xs.length) := hgl.1
      have HSL : Hid ((sumsL xs ys).length = xs.length) := sums_len (Bool.and_eq_true_iff.1 q1).1
      have lpb : ps.length ≤ 24 := by omega
      have lqp : Hid (qs.length = ps.length) := by show _ = _; rw [lp1, lq1]
      unfold covA covB
      generalize sumsL xs ys = S at *
      obtain ⟨TO, eO⟩ : ∃ T, totL xs ys (prdL ps qs ps.length) = T := ⟨_, rfl⟩
      obtain ⟨TP, eP⟩ : ∃ T, totL xs ys ps = T := ⟨_, rfl⟩
      obtain ⟨TQ, eQ⟩ : ∃ T, totL xs ys qs = T := ⟨_, rfl⟩
      have HTLO := HTL.out (prdL ps qs ps.length)
      have HTLP := HTL.out ps
      have HTLQ := HTL.out qs
      rw [eO] at HTO hcb HTLO ⊢
      rw [eP] at HTP hcb HTLP ⊢
      rw [eQ] at HTQ hcb HTLQ ⊢
      obtain ⟨v1, v2, v3, v4, v5⟩ := hcb
      have HLO : Hid (1 ≤ TO.length) := by show 1 ≤ _; rw [HTLO]; exact hgl.1
      have HLP : Hid (1 ≤ TP.length) := by show 1 ≤ _; rw [HTLP]; exact hgl.1
      have HLQ : Hid (1 ≤ TQ.length) := by show 1 ≤ _; rw [HTLQ]; exact hgl.1
      have b1 := mul_bd (A := 479040480) (D := 480) (a := nth TO 0) (d := nth S 0) v1 (by omega)
      have b2 := mul_bd (A := 479520) (D := 479520) (a := nth TP 0) (d := nth TQ 0) v2 v3
      have b3 := mul_bd (A := 480) (D := 480) (a := nth S 0) (d := nth S 0) (by omega) (by omega)
      have b4 : 1 ≤ nth S 0 * nth S 0 := by have := Int.mul_le_mul (a := 1) (b := 1) (c := nth S 0) (d := nth S 0) v4 v4 (by omega) (by omega); omega
      have u1 : IntKind.i64.wrap (nth TO 0 * nth S 0) = nth TO 0 * nth S 0 := IntWalk.i64_in _ (by omega)
      have u2 : IntKind.i64.wrap (nth TP 0 * nth TQ 0) = nth TP 0 * nth TQ 0 := IntWalk.i64_in _ (by omega)
      have u3 : IntKind.i64.wrap (nth S 0 * nth S 0) = nth S 0 * nth S 0 := IntWalk.i64_in _ (by omega)
      have u4 : IntKind.i64.wrap (nth TO 0 * nth S 0 - nth TP 0 * nth TQ 0) = nth TO 0 * nth S 0 - nth TP 0 * nth TQ 0 := IntWalk.i64_in _ (by omega)
      have HC := Lib.hid (fun W => l2Cut_any (nth TO 0 * nth S 0 - nth TP 0 * nth TQ 0) (nth S 0 * nth S 0) W (by omega) (by omega) (by omega))
      have HK := fun W => kept_r (nth TO 0 * nth S 0 - nth TP 0 * nth TQ 0) (nth S 0 * nth S 0) (by omega) W
      unfold FracV at HK
      replace HK := Lib.hid HK
      clear hpp hqq lp1 lq1 hel hgl HTL eO eP eQ HTLO HTLP HTLQ v1 v2 v3 v4 v5 b1 b2 b3 b4
      generalize lowX (nth TO 0 * nth S 0 - nth TP 0 * nth TQ 0) (nth S 0 * nth S 0) = X at *
      generalize lowY (nth TO 0 * nth S 0 - nth TP 0 * nth TQ 0) (nth S 0 * nth S 0) = Y at *
      generalize lowN (nth TO 0 * nth S 0 - nth TP 0 * nth TQ 0) (nth S 0 * nth S 0) = N at *
      generalize lowM (nth TO 0 * nth S 0 - nth TP 0 * nth TQ 0) (nth S 0 * nth S 0) = M at *
      generalize lowOk (nth TO 0 * nth S 0 - nth TP 0 * nth TQ 0) (nth S 0 * nth S 0) = O at *
      clear q1 q2 _hx _hy _bp _bq
      go_enter Try.func67, Try.ntmps67
      go_wp2_with fail
      refine (HG1.out _ ((h.alloc _).alloc _) ((k.alloc _).alloc _) ((zp.alloc _).alloc _)).mono ?_
      rintro e1 w1 ⟨rfl, hb⟩
      have hx0 : w1.cell? ⟨w.heap.size, 0, none⟩ = some (.slice A xs.length c) := keep_cell hb (by simp)
      have hx1 : w1.cell? ⟨w.heap.size, 1, none⟩ = some (.slice B ys.length e) := keep_cell hb (by simp)
      have hr0 : w1.cell? ⟨w.heap.size + 1, 0, none⟩ = some (.int .i64 0) := keep_cell hb (by simp)
      have hr1 : w1.cell? ⟨w.heap.size + 1, 1, none⟩ = some (.int .i64 0) := keep_cell hb (by simp)
      have hf0 : w1.frozen? ⟨w.heap.size + 1, 0, none⟩ = false := keep_froz hb (by simp) (by simp)
      have hf1 : w1.frozen? ⟨w.heap.size + 1, 1, none⟩ = false := keep_froz hb (by simp) (by simp)
      have hw : Below w.heap.size w w1 := below_alloc (below_alloc (hb))
      clear hb
      go_wp2_with fail
      refine (HG2.out _ (h.below hw) (k.below hw) (zq.below hw)).mono ?_
      rintro e1 w2 ⟨rfl, hb⟩
      replace hx0 := keep_cell hb hx0
      replace hx1 := keep_cell hb hx1
      replace hf0 := keep_froz hb (by rw [hr0]; rfl) hf0
      replace hf1 := keep_froz hb (by rw [hr1]; rfl) hf1
      replace hr0 := keep_cell hb hr0
      replace hr1 := keep_cell hb hr1
      replace hw := keep_below hb hw
      clear hb
      clear HG1 HG2
      have hrw := World.block_lt_of_cell? _ _ hr0
      replace hrw : w.heap.size + 1 < w2.heap.size := hrw
      obtain ⟨i0, hi, hz0, hz1, hz2⟩ := info_parts info_int
      go_upto_region 4 with (fail)
      go_cut [8, 9] (fun s8 s9 wx => ∃ g : Nat, w.heap.size + 1 < g ∧ s8 = .slice (some ⟨g, 0, none⟩) 0 0 ∧ s9 = .int .i64 (nth S 0) ∧ wx.ownsRow (w.heap.size + 1) 3 1 (.slice (some ⟨g, 0, none⟩) 0 0) 0 [] ∧ wx.cell? ⟨w.heap.size, 0, none⟩ = some (.slice A xs.length c) ∧ wx.cell? ⟨w.heap.size, 1, none⟩ = some (.slice B ys.length e) ∧ wx.cell? ⟨w.heap.size + 1, 0, none⟩ = some (.int .i64 0) ∧ wx.cell? ⟨w.heap.size + 1, 1, none⟩ = some (.int .i64 0) ∧ wx.frozen? ⟨w.heap.size + 1, 0, none⟩ = false ∧ wx.frozen? ⟨w.heap.size + 1, 1, none⟩ = false ∧ Below w.heap.size w wx)
      case first =>
        refine wp_region_held_drew (S := fun w' => Below w2.heap.size w2 w') (by kernel_rfl) ((Below.refl _ _)).drew (fun hHeld => ?_)
        replace hw := hw.drew
        refine wpAnyH_take (i := 1) (oi := ?oo1) (v := ?vv1) ?hi1 (by kernel_rfl) (by kernel_rfl) (by kernel_rfl) ?hq1 (Or.inl ⟨?hg1, ?hy1⟩) (by assumption) ?rest1
        case hi1 => simp only [List.getElem?_toArray, List.getElem?_cons_zero, List.getElem?_cons_succ]; rfl
        case hq1 => exact fun _ _ _ h => h
        case hg1 => rfl
        case hy1 =>
          intro wq hSw
          replace hx0 := keep_cell hSw hx0
          replace hx1 := keep_cell hSw hx1
          replace hr0 := keep_cell hSw hr0
          replace hr1 := keep_cell hSw hr1
          go_simp
          (try with_reducible rfl)
        (try simp only [Act.put, List.setIfInBounds_toArray, List.set_cons_zero, List.set_cons_succ])
        refine wpAnyH_ready (rs := [0, 2]) (by kernel_rfl) (by simp) ?_
        refine AllReadyH.cons (i := 0) (o := ?oo2) ?ho2 (fun K hK => ?hstep2) ?more2
        case ho2 => simp only [List.getElem?_toArray, List.getElem?_cons_zero]; rfl
        case hstep2 =>
          go_simp
          refine hK.out _ _ (by (repeat (first | with_reducible exact Below.refl _ _ | with_reducible assumption | with_reducible refine Below.alloc' ?_ ?_ _ | with_reducible refine Below.setCell' ?_ ?_ _ | with_reducible refine Below.drewN' ?_ _ | with_reducible refine Below.drew ?_ | with_reducible refine Below.transA ?_ (by assumption) ?_ | omega | (focus (simp; done)) | (focus (simp; omega))))) (fun hHeld => ?_)
          clear hK K
          (try simp only [Act.put, List.setIfInBounds_toArray, List.set_cons_zero, List.set_cons_succ])
          refine wpAnyH_name hHeld (fun wa hb hwz => ?_)
          have hown : wa.ownsRow (w.heap.size + 1) 3 1 (.slice (some ⟨w2.heap.size, 0, none⟩) 0 0) 0 [] := by rw [hwz]; exact (own_empty w2 (w.heap.size + 1) w2.heap.size rfl (by omega)).drew
          refine wpAnyH_mono (S' := fun w' => Below wa.heap.size wa w') (fun _ h => keep_below h hb) _ _ _ _ ?_
          replace hw := keep_below_dr hb hw
          replace hf0 := keep_froz2 hb hr0 hf0
          replace hf1 := keep_froz2 hb hr1 hf1
          replace hx0 := keep_cell hb hx0
          replace hx1 := keep_cell hb hx1
          replace hr0 := keep_cell hb hr0
          replace hr1 := keep_cell hb hr1
          clear hHeld hb hwz
          have hHeld : Below wa.heap.size wa wa := (Below.refl _ _)
          refine wpAnyH_ready (rs := [2]) (by kernel_rfl) (by simp) ?_
          refine AllReadyH.cons (i := 2) (o := ?oo3) ?ho3 (fun K hK => ?hstep3) AllReadyH.nil
          case ho3 => simp only [List.getElem?_toArray, List.getElem?_cons_zero, List.getElem?_cons_succ]; rfl
          go_simp
          refine (HSu.out _ (h.below hw) (k.below hw)).mono ?_
          rintro e1 wz ⟨As, cs, rfl, hos, hb⟩
          obtain ⟨gs, rfl, hgs, hrs⟩ := hos.pos HL.out
          have hS0 := hrs.cell (j := 0) HL.out
          have hl0 : 0 < S.length := HL.out
          clear hrs hos hgs
          replace hown := own_below hown hb
          go_wp2_with fail
          refine hK.out _ _ (keep_below hb hHeld) (fun _ => ?_)
          clear hK K
          (try simp only [Act.put, List.setIfInBounds_toArray, List.set_cons_zero, List.set_cons_succ])
          refine wpAnyH_mono (S' := fun w' => Below wz.heap.size wz w') (fun _ h => keep_below h (keep_below hb hHeld)) _ _ _ _ ?_
          replace hw := keep_below hb hw
          replace hf0 := keep_froz2 hb hr0 hf0
          replace hf1 := keep_froz2 hb hr1 hf1
          replace hx0 := keep_cell hb hx0
          replace hx1 := keep_cell hb hx1
          replace hr0 := keep_cell hb hr0
          replace hr1 := keep_cell hb hr1
          clear hHeld hb
          have hHeld : Below wz.heap.size wz wz := (Below.refl _ _)
          refine wpAnyH_take (i := 3) (oi := ?oo4) (v := ?vv4) ?hi4 (by kernel_rfl) (by kernel_rfl) (by kernel_rfl) ?hq4 (Or.inl ⟨?hg4, ?hy4⟩) (by assumption) ?rest4
          case hi4 => simp only [List.getElem?_toArray, List.getElem?_cons_zero, List.getElem?_cons_succ]; rfl
          case hq4 => exact fun _ _ _ h => h
          case hg4 => rfl
          case hy4 =>
            intro wq hSw
            replace hx0 := keep_cell hSw hx0
            replace hx1 := keep_cell hSw hx1
            replace hr0 := keep_cell hSw hr0
            replace hr1 := keep_cell hSw hr1
            replace hS0 := keep_cell hSw hS0
            go_simp
            (try with_reducible rfl)
          (try simp only [Act.put, List.setIfInBounds_toArray, List.set_cons_zero, List.set_cons_succ])
          refine wpAnyH_take (i := 4) (oi := ?oo5) (v := ?vv5) ?hi5 (by kernel_rfl) (by kernel_rfl) (by kernel_rfl) ?hq5 (Or.inl ⟨?hg5, ?hy5⟩) (by assumption) ?rest5
          case hi5 => simp only [List.getElem?_toArray, List.getElem?_cons_zero, List.getElem?_cons_succ]; rfl
          case hq5 => exact fun _ _ _ h => h
          case hg5 => rfl
          case hy5 =>
            intro wq hSw
            replace hx0 := keep_cell hSw hx0
            replace hx1 := keep_cell hSw hx1
            replace hr0 := keep_cell hSw hr0
            replace hr1 := keep_cell hSw hr1
            replace hS0 := keep_cell hSw hS0
            go_simp
            (try with_reducible rfl)
          (try simp only [Act.put, List.setIfInBounds_toArray, List.set_cons_zero, List.set_cons_succ])
          refine wpAnyH_take (i := 5) (oi := ?oo6) (v := ?vv6) ?hi6 (by kernel_rfl) (by kernel_rfl) (by kernel_rfl) ?hq6 (Or.inl ⟨?hg6, ?hy6⟩) (by assumption) ?rest6
          case hi6 => simp only [List.getElem?_toArray, List.getElem?_cons_zero, List.getElem?_cons_succ]; rfl
          case hq6 => exact fun _ _ _ h => h
          case hg6 => rfl
          case hy6 =>
            intro wq hSw
            replace hx0 := keep_cell hSw hx0
            replace hx1 := keep_cell hSw hx1
            replace hr0 := keep_cell hSw hr0
            replace hr1 := keep_cell hSw hr1
            replace hS0 := keep_cell hSw hS0
            go_simp
            (try with_reducible rfl)
          (try simp only [Act.put, List.setIfInBounds_toArray, List.set_cons_zero, List.set_cons_succ])
          refine wpAnyH_take (i := 6) (oi := ?oo7) (v := ?vv7) ?hi7 (by kernel_rfl) (by kernel_rfl) (by kernel_rfl) ?hq7 (Or.inl ⟨?hg7, ?hy7⟩) (by assumption) ?rest7
          case hi7 => simp only [List.getElem?_toArray, List.getElem?_cons_zero, List.getElem?_cons_succ]; rfl
          case hq7 => exact fun _ _ _ h => h
          case hg7 => rfl
          case hy7 =>
            intro wq hSw
            replace hx0 := keep_cell hSw hx0
            replace hx1 := keep_cell hSw hx1
            replace hr0 := keep_cell hSw hr0
            replace hr1 := keep_cell hSw hr1
            replace hS0 := keep_cell hSw hS0
            go_simp
            (try with_reducible rfl)
          (try simp only [Act.put, List.setIfInBounds_toArray, List.set_cons_zero, List.set_cons_succ])
          clear hHeld
          refine wpAnyH_done (by kernel_rfl) ?_ _
          go_wp2_with fail
          go_meet
          go_split_ands
          exact ⟨_, by omega, rfl, rfl, hown, by assumption, by assumption, by assumption, by assumption, by assumption, by assumption, by assumption⟩
        refine AllReadyH.cons (i := 2) (o := ?oo8) ?ho8 (fun K hK => ?hstep8) ?more8
        case ho8 => simp only [List.getElem?_toArray, List.getElem?_cons_zero, List.getElem?_cons_succ]; rfl
        case hstep8 =>
          go_simp
          refine (HSu.out _ (h.below hw) (k.below hw)).mono ?_
          rintro e1 wz ⟨As, cs, rfl, hos, hb⟩
          obtain ⟨gs, rfl, hgs, hrs⟩ := hos.pos HL.out
          have hS0 := hrs.cell (j := 0) HL.out
          have hl0 : 0 < S.length := HL.out
          clear hrs hos hgs
          go_wp2_with fail
          refine hK.out _ _ (keep_below hb hHeld) (fun _ => ?_)
          clear hK K
          (try simp only [Act.put, List.setIfInBounds_toArray, List.set_cons_zero, List.set_cons_succ])
          refine wpAnyH_mono (S' := fun w' => Below wz.heap.size wz w') (fun _ h => keep_below h (keep_below hb hHeld)) _ _ _ _ ?_
          replace hw := keep_below hb hw
          replace hf0 := keep_froz2 hb hr0 hf0
          replace hf1 := keep_froz2 hb hr1 hf1
          replace hx0 := keep_cell hb hx0
          replace hx1 := keep_cell hb hx1
          replace hr0 := keep_cell hb hr0
          replace hr1 := keep_cell hb hr1
          clear hHeld hb
          have hHeld : Below wz.heap.size wz wz := (Below.refl _ _)
          refine wpAnyH_take (i := 3) (oi := ?oo9) (v := ?vv9) ?hi9 (by kernel_rfl) (by kernel_rfl) (by kernel_rfl) ?hq9 (Or.inl ⟨?hg9, ?hy9⟩) (by assumption) ?rest9
          case hi9 => simp only [List.getElem?_toArray, List.getElem?_cons_zero, List.getElem?_cons_succ]; rfl
          case hq9 => exact fun _ _ _ h => h
          case hg9 => rfl
          case hy9 =>
            intro wq hSw
            replace hx0 := keep_cell hSw hx0
            replace hx1 := keep_cell hSw hx1
            replace hr0 := keep_cell hSw hr0
            replace hr1 := keep_cell hSw hr1
            replace hS0 := keep_cell hSw hS0
            go_simp
            (try with_reducible rfl)
          (try simp only [Act.put, List.setIfInBounds_toArray, List.set_cons_zero, List.set_cons_succ])
          refine wpAnyH_take (i := 4) (oi := ?oo10) (v := ?vv10) ?hi10 (by kernel_rfl) (by kernel_rfl) (by kernel_rfl) ?hq10 (Or.inl ⟨?hg10, ?hy10⟩) (by assumption) ?rest10
          case hi10 => simp only [List.getElem?_toArray, List.getElem?_cons_zero, List.getElem?_cons_succ]; rfl
          case hq10 => exact fun _ _ _ h => h
          case hg10 => rfl
          case hy10 =>
            intro wq hSw
            replace hx0 := keep_cell hSw hx0
            replace hx1 := keep_cell hSw hx1
            replace hr0 := keep_cell hSw hr0
            replace hr1 := keep_cell hSw hr1
            replace hS0 := keep_cell hSw hS0
            go_simp
            (try with_reducible rfl)
          (try simp only [Act.put, List.setIfInBounds_toArray, List.set_cons_zero, List.set_cons_succ])
          refine wpAnyH_ready (rs := [0]) (by kernel_rfl) (by simp) ?_
          refine AllReadyH.cons (i := 0) (o := ?oo11) ?ho11 (fun K hK => ?hstep11) AllReadyH.nil
          case ho11 => simp only [List.getElem?_toArray, List.getElem?_cons_zero]; rfl
          go_simp
          refine hK.out _ _ (by (repeat (first | with_reducible exact Below.refl _ _ | with_reducible assumption | with_reducible refine Below.alloc' ?_ ?_ _ | with_reducible refine Below.setCell' ?_ ?_ _ | with_reducible refine Below.drewN' ?_ _ | with_reducible refine Below.drew ?_ | with_reducible refine Below.transA ?_ (by assumption) ?_ | omega | (focus (simp; done)) | (focus (simp; omega))))) (fun hHeld => ?_)
          clear hK K
          (try simp only [Act.put, List.setIfInBounds_toArray, List.set_cons_zero, List.set_cons_succ])
          refine wpAnyH_name hHeld (fun wa hb hwz => ?_)
          have hwl : w.heap.size + 1 < wz.heap.size := World.block_lt_of_cell? _ _ hr0
          have hown : wa.ownsRow (w.heap.size + 1) 3 1 (.slice (some ⟨wz.heap.size, 0, none⟩) 0 0) 0 [] := by rw [hwz]; exact own_empty wz (w.heap.size + 1) wz.heap.size rfl (by omega)
          refine wpAnyH_mono (S' := fun w' => Below wa.heap.size wa w') (fun _ h => keep_below h hb) _ _ _ _ ?_
          replace hw := keep_below hb hw
          replace hf0 := keep_froz2 hb hr0 hf0
          replace hf1 := keep_froz2 hb hr1 hf1
          replace hx0 := keep_cell hb hx0
          replace hx1 := keep_cell hb hx1
          replace hr0 := keep_cell hb hr0
          replace hr1 := keep_cell hb hr1
          replace hS0 := keep_cell hb hS0
          clear hHeld hb hwz
          have hHeld : Below wa.heap.size wa wa := (Below.refl _ _)
          refine wpAnyH_take (i := 5) (oi := ?oo12) (v := ?vv12) ?hi12 (by kernel_rfl) (by kernel_rfl) (by kernel_rfl) ?hq12 (Or.inl ⟨?hg12, ?hy12⟩) (by assumption) ?rest12
          case hi12 => simp only [List.getElem?_toArray, List.getElem?_cons_zero, List.getElem?_cons_succ]; rfl
          case hq12 => exact fun _ _ _ h => h
          case hg12 => rfl
          case hy12 =>
            intro wq hSw
            replace hx0 := keep_cell hSw hx0
            replace hx1 := keep_cell hSw hx1
            replace hr0 := keep_cell hSw hr0
            replace hr1 := keep_cell hSw hr1
            replace hS0 := keep_cell hSw hS0
            go_simp
            (try with_reducible rfl)
          (try simp only [Act.put, List.setIfInBounds_toArray, List.set_cons_zero, List.set_cons_succ])
          refine wpAnyH_take (i := 6) (oi := ?oo13) (v := ?vv13) ?hi13 (by kernel_rfl) (by kernel_rfl) (by kernel_rfl) ?hq13 (Or.inl ⟨?hg13, ?hy13⟩) (by assumption) ?rest13
          case hi13 => simp only [List.getElem?_toArray, List.getElem?_cons_zero, List.getElem?_cons_succ]; rfl
          case hq13 => exact fun _ _ _ h => h
          case hg13 => rfl
          case hy13 =>
            intro wq hSw
            replace hx0 := keep_cell hSw hx0
            replace hx1 := keep_cell hSw hx1
            replace hr0 := keep_cell hSw hr0
            replace hr1 := keep_cell hSw hr1
            replace hS0 := keep_cell hSw hS0
            go_simp
            (try with_reducible rfl)
          (try simp only [Act.put, List.setIfInBounds_toArray, List.set_cons_zero, List.set_cons_succ])
          clear hHeld
          refine wpAnyH_done (by kernel_rfl) ?_ _
          go_wp2_with fail
          go_meet
          go_split_ands
          exact ⟨_, by omega, rfl, rfl, hown, by assumption, by assumption, by assumption, by assumption, by assumption, by assumption, by assumption⟩
        exact AllReadyH.nil
      case rest =>
        obtain ⟨g, hgw, rfl, rfl, hown, hx0, hx1, hr0, hr1, hf0, hf1, hw⟩ := hcut
        clear hrw
        go_wp2
        go_loopw [8, 10] (fun v i wr => ∃ j : Nat, j ≤ ps.length ∧ i = .int .i64 j ∧ wr.ownsRow (w.heap.size + 1) 3 1 v (prdL ps qs j).length (i64s (prdL ps qs j)) ∧ v.ownBlock ≠ some (w.heap.size + 1) ∧ wr.cell? ⟨w.heap.size, 0, none⟩ = some (.slice A xs.length c) ∧ wr.cell? ⟨w.heap.size, 1, none⟩ = some (.slice B ys.length e) ∧ wr.cell? ⟨w.heap.size + 1, 0, none⟩ = some (.int .i64 0) ∧ wr.cell? ⟨w.heap.size + 1, 1, none⟩ = some (.int .i64 0) ∧ wr.frozen? ⟨w.heap.size + 1, 0, none⟩ = false ∧ wr.frozen? ⟨w.heap.size + 1, 1, none⟩ = false ∧ Below w.heap.size w wr) (fun _ i _ => ps.length - (intOf i).toNat)
        case atStart => exact ⟨0, by omega, rfl, hown, (by simp [Value.ownBlock]; omega), hx0, hx1, hr0, hr1, hf0, hf1, hw⟩
        case round =>
          clear hown hx0 hx1 hr0 hr1 hf0 hf1 hw
          obtain ⟨j, hj, rfl, hown, hne, hx0, hx1, hr0, hr1, hf0, hf1, hw⟩ := hrel
          have hlen := HPL.out j
          have hlx := World.block_lt_of_cell? _ _ hr0
          replace hlx : w.heap.size + 1 < wr.heap.size := hlx
          by_cases hlt : j < ps.length
          · obtain ⟨b1, o1, rfl, hcp⟩ := zp.at_ (j := j) hlt
            obtain ⟨b2, o2, rfl, hcq⟩ := zq.at_ (j := j) (by rw [lqp.out]; exact hlt)
            have l1 : b1 < w.heap.size := World.block_lt_of_cell? _ _ hcp
            have l2 : b2 < w.heap.size := World.block_lt_of_cell? _ _ hcq
            replace hcp := (hw.cell l1).trans hcp
            replace hcq := (hw.cell l2).trans hcq
            have hb := HPB.out j
            have hps := HPS.out j
            have hpi : (j : Int) < ps.length := by omega
            have hqi : (j : Int) < qs.length := by rw [lqp.out]; omega
            obtain ⟨x, hx⟩ : ∃ x, nth ps j = x := ⟨_, rfl⟩
            obtain ⟨y, hy⟩ : ∃ y, nth qs j = y := ⟨_, rfl⟩
            rw [hx, hy] at hps hb
            rw [hx] at hcp
            rw [hy] at hcq
            have hmb := mul_bd (A := 999) (D := 999) hb.1 hb.2
            obtain ⟨m, hm⟩ : ∃ m, x * y = m := ⟨_, rfl⟩
            have u9 : IntKind.i64.wrap (x * y) = m := by rw [hm]; exact IntWalk.i64_in _ (by omega)
            have u8 : IntKind.i64.wrap m = m := IntWalk.i64_in _ (by omega)
            rw [hm] at hps
            have HPX : Hid (i64s (prdL ps qs (j + 1)) = i64s (prdL ps qs j) ++ [Value.int .i64 m] ∧ (prdL ps qs (j + 1)).length = (prdL ps qs j).length + 1) := by rw [hps]; exact ⟨i64s_app _ _, by simp⟩
            have hlen2 : (prdL ps qs j).length ≤ 24 := by rw [hlen]; omega
            clear hx hy hb hps hlen u1 u2 u3 u4 
            generalize prdL ps qs j = L at *
            go_wp2
            go_region_held3 (fun w' => w'.cell? ⟨b1, o1 + j, none⟩ = some (.int .i64 x) ∧ w'.cell? ⟨b2, o2 + j, none⟩ = some (.int .i64 y))
              (first | go_keep | (go_split_ands; exact ⟨grown_cell hgrow (by assumption) (own_ne (g := b1) hown (by omega)), grown_cell hgrow (by assumption) (own_ne (g := b2) hown (by omega))⟩))
              ((refine step_append_elder _ (by rfl) _ _ 22 (by rfl) (w.heap.size + 1) 3 i0 (.int .i64 0) 1 8 Try.underlying22 hi hz0 hz1 hz2 rfl (by decide) _ _ _ (by rfl) ((hown.alloc _).drew) ⟨wr.heap.size, 0, none⟩ 1 1 [.int .i64 (m)] (by rfl) rfl (World.news_of_block (cs := #[.int .i64 (m)]) (t := 3) (fr := (0, 0)) (heap_alloc_new wr _)) (by simp [Value.oneCell']) (by unfold maxLen; omega) (by omega) (by simp; omega) ?_; intro v' w1 hown1 hgrow hat hel))
            have hq0 := grown_cell hgrow (p := ⟨w.heap.size, 0, none⟩) (by show (wr.alloc _).cell? _ = _; rw [World.cell?_alloc_lt _ _ _ (show w.heap.size < wr.heap.size by omega)]; exact hx0) (own_ne (g := w.heap.size) hown (by omega))
            have hq1 := grown_cell hgrow (p := ⟨w.heap.size, 1, none⟩) (by show (wr.alloc _).cell? _ = _; rw [World.cell?_alloc_lt _ _ _ (show w.heap.size < wr.heap.size by omega)]; exact hx1) (own_ne (g := w.heap.size) hown (by omega))
            have hq2 := grown_cell hgrow (p := ⟨w.heap.size + 1, 0, none⟩) (by show (wr.alloc _).cell? _ = _; rw [World.cell?_alloc_lt _ _ _ (show w.heap.size + 1 < wr.heap.size by omega)]; exact hr0) hne
            have hq3 := grown_cell hgrow (p := ⟨w.heap.size + 1, 1, none⟩) (by show (wr.alloc _).cell? _ = _; rw [World.cell?_alloc_lt _ _ _ (show w.heap.size + 1 < wr.heap.size by omega)]; exact hr1) hne
            have hq4 : w1.frozen? ⟨w.heap.size + 1, 0, none⟩ = false := (hgrow.frozen_far ⟨w.heap.size + 1, 0, none⟩ (by show w.heap.size + 1 < _; simp; omega) (fun e => hne e.symm)).trans ((((Below.refl wr.heap.size wr).alloc (Nat.le_refl _) _).frozen (show w.heap.size + 1 < wr.heap.size by omega)).trans hf0)
            have hq5 : w1.frozen? ⟨w.heap.size + 1, 1, none⟩ = false := (hgrow.frozen_far ⟨w.heap.size + 1, 1, none⟩ (by show w.heap.size + 1 < _; simp; omega) (fun e => hne e.symm)).trans ((((Below.refl wr.heap.size wr).alloc (Nat.le_refl _) _).frozen (show w.heap.size + 1 < wr.heap.size by omega)).trans hf1)
            have hb3 : Below w.heap.size w w1 := Below.grown ((hw.alloc hw.size _).drew) hgrow (by have := hw.size; simp; omega) (fun g hg => by have := (hown.lt g hg).1; omega)
            have hne1 : v'.ownBlock ≠ some (w.heap.size + 1) := by
              rcases hat with e | e
              · rw [e]; exact hne
              · rw [e]; simp; omega
            rw [← HPX.out.1, ← HPX.out.2] at hown1
            clear hown hgrow hw HPX hx0 hx1 hr0 hr1 hf0 hf1 hne hat
            go_wp2
            go_roundw
            case rel => exact ⟨j + 1, by omega, by go_num, hown1, hne1, hq0, hq1, hq2, hq3, hq4, hq5, hb3⟩
            case measure => simp only [intOf]; omega
          · have hje : j = ps.length := by omega
            rw [hje] at hown
            obtain ⟨A', c', rfl, hO⟩ := own_form hown
            have hpr := hO.ints
            clear hown hO hlen
            have hli : (prdL ps qs ps.length).length ≤ 24 := by rw [HPL.out]; exact lpb
            subst hje
            go_wp2
            refine wp_region_held_drew (S := fun w' => KeptBut wr w' (w.heap.size + 1) (w.heap.size + 1)) (by kernel_rfl) ((KeptBut.refl2 _ _)).drew (fun hHeld => ?_)
            replace hw := hw.drew
            refine wpAnyH_take (i := 0) (oi := ?oox1) (v := ?vvx1) ?hix1 (by kernel_rfl) (by kernel_rfl) (by kernel_rfl) ?hqx1 (Or.inl ⟨?hgx1, ?hyx1⟩) (by assumption) ?restx1
            case hix1 => simp only [List.getElem?_toArray, List.getElem?_cons_zero]; rfl
            case hqx1 => exact fun _ _ _ h => h
            case hgx1 => rfl
            case hyx1 =>
              intro wq hSw
              replace hx0 := hSw.cell hx0 (by first | omega | (simp; done) | (simp; omega)) (by first | omega | (simp; done) | (simp; omega))
              replace hx1 := hSw.cell hx1 (by first | omega | (simp; done) | (simp; omega)) (by first | omega | (simp; done) | (simp; omega))
              go_simp
              (try with_reducible rfl)
            (try simp only [Act.put, List.setIfInBounds_toArray, List.set_cons_zero, List.set_cons_succ])
            refine wpAnyH_take (i := 1) (oi := ?oox2) (v := ?vvx2) ?hix2 (by kernel_rfl) (by kernel_rfl) (by kernel_rfl) ?hqx2 (Or.inl ⟨?hgx2, ?hyx2⟩) (by assumption) ?restx2
            case hix2 => simp only [List.getElem?_toArray, List.getElem?_cons_zero, List.getElem?_cons_succ]; rfl
            case hqx2 => exact fun _ _ _ h => h
            case hgx2 => rfl
            case hyx2 =>
              intro wq hSw
              replace hx0 := hSw.cell hx0 (by first | omega | (simp; done) | (simp; omega)) (by first | omega | (simp; done) | (simp; omega))
              replace hx1 := hSw.cell hx1 (by first | omega | (simp; done) | (simp; omega)) (by first | omega | (simp; done) | (simp; omega))
              go_simp
              (try with_reducible rfl)
            (try simp only [Act.put, List.setIfInBounds_toArray, List.set_cons_zero, List.set_cons_succ])
            refine wpAnyH_take (i := 5) (oi := ?oox3) (v := ?vvx3) ?hix3 (by kernel_rfl) (by kernel_rfl) (by kernel_rfl) ?hqx3 (Or.inl ⟨?hgx3, ?hyx3⟩) (by assumption) ?restx3
            case hix3 => simp only [List.getElem?_toArray, List.getElem?_cons_zero, List.getElem?_cons_succ]; rfl
            case hqx3 => exact fun _ _ _ h => h
            case hgx3 => rfl
            case hyx3 =>
              intro wq hSw
              replace hx0 := hSw.cell hx0 (by first | omega | (simp; done) | (simp; omega)) (by first | omega | (simp; done) | (simp; omega))
              replace hx1 := hSw.cell hx1 (by first | omega | (simp; done) | (simp; omega)) (by first | omega | (simp; done) | (simp; omega))
              go_simp
              (try with_reducible rfl)
            (try simp only [Act.put, List.setIfInBounds_toArray, List.set_cons_zero, List.set_cons_succ])
            refine wpAnyH_take (i := 7) (oi := ?oox4) (v := ?vvx4) ?hix4 (by kernel_rfl) (by kernel_rfl) (by kernel_rfl) ?hqx4 (Or.inl ⟨?hgx4, ?hyx4⟩) (by assumption) ?restx4
            case hix4 => simp only [List.getElem?_toArray, List.getElem?_cons_zero, List.getElem?_cons_succ]; rfl
            case hqx4 => exact fun _ _ _ h => h
            case hgx4 => rfl
            case hyx4 =>
              intro wq hSw
              replace hx0 := hSw.cell hx0 (by first | omega | (simp; done) | (simp; omega)) (by first | omega | (simp; done) | (simp; omega))
              replace hx1 := hSw.cell hx1 (by first | omega | (simp; done) | (simp; omega)) (by first | omega | (simp; done) | (simp; omega))
              go_simp
              (try with_reducible rfl)
            (try simp only [Act.put, List.setIfInBounds_toArray, List.set_cons_zero, List.set_cons_succ])
            refine wpAnyH_take (i := 8) (oi := ?oox5) (v := ?vvx5) ?hix5 (by kernel_rfl) (by kernel_rfl) (by kernel_rfl) ?hqx5 (Or.inl ⟨?hgx5, ?hyx5⟩) (by assumption) ?restx5
            case hix5 => simp only [List.getElem?_toArray, List.getElem?_cons_zero, List.getElem?_cons_succ]; rfl
            case hqx5 => exact fun _ _ _ h => h
            case hgx5 => rfl
            case hyx5 =>
              intro wq hSw
              replace hx0 := hSw.cell hx0 (by first | omega | (simp; done) | (simp; omega)) (by first | omega | (simp; done) | (simp; omega))
              replace hx1 := hSw.cell hx1 (by first | omega | (simp; done) | (simp; omega)) (by first | omega | (simp; done) | (simp; omega))
              go_simp
              (try with_reducible rfl)
            (try simp only [Act.put, List.setIfInBounds_toArray, List.set_cons_zero, List.set_cons_succ])
            refine wpAnyH_take (i := 12) (oi := ?oox6) (v := ?vvx6) ?hix6 (by kernel_rfl) (by kernel_rfl) (by kernel_rfl) ?hqx6 (Or.inl ⟨?hgx6, ?hyx6⟩) (by assumption) ?restx6
            case hix6 => simp only [List.getElem?_toArray, List.getElem?_cons_zero, List.getElem?_cons_succ]; rfl
            case hqx6 => exact fun _ _ _ h => h
            case hgx6 => rfl
            case hyx6 =>
              intro wq hSw
              replace hx0 := hSw.cell hx0 (by first | omega | (simp; done) | (simp; omega)) (by first | omega | (simp; done) | (simp; omega))
              replace hx1 := hSw.cell hx1 (by first | omega | (simp; done) | (simp; omega)) (by first | omega | (simp; done) | (simp; omega))
              go_simp
              (try with_reducible rfl)
            (try simp only [Act.put, List.setIfInBounds_toArray, List.set_cons_zero, List.set_cons_succ])
            refine wpAnyH_take (i := 13) (oi := ?oox7) (v := ?vvx7) ?hix7 (by kernel_rfl) (by kernel_rfl) (by kernel_rfl) ?hqx7 (Or.inl ⟨?hgx7, ?hyx7⟩) (by assumption) ?restx7
            case hix7 => simp only [List.getElem?_toArray, List.getElem?_cons_zero, List.getElem?_cons_succ]; rfl
            case hqx7 => exact fun _ _ _ h => h
            case hgx7 => rfl
            case hyx7 =>
              intro wq hSw
              replace hx0 := hSw.cell hx0 (by first | omega | (simp; done) | (simp; omega)) (by first | omega | (simp; done) | (simp; omega))
              replace hx1 := hSw.cell hx1 (by first | omega | (simp; done) | (simp; omega)) (by first | omega | (simp; done) | (simp; omega))
              go_simp
              (try with_reducible rfl)
            (try simp only [Act.put, List.setIfInBounds_toArray, List.set_cons_zero, List.set_cons_succ])
            refine wpAnyH_take (i := 19) (oi := ?oox8) (v := ?vvx8) ?hix8 (by kernel_rfl) (by kernel_rfl) (by kernel_rfl) ?hqx8 (Or.inl ⟨?hgx8, ?hyx8⟩) (by assumption) ?restx8
            case hix8 => simp only [List.getElem?_toArray, List.getElem?_cons_zero, List.getElem?_cons_succ]; rfl
            case hqx8 => exact fun _ _ _ h => h
            case hgx8 => rfl
            case hyx8 =>
              intro wq hSw
              replace hx0 := hSw.cell hx0 (by first | omega | (simp; done) | (simp; omega)) (by first | omega | (simp; done) | (simp; omega))
              replace hx1 := hSw.cell hx1 (by first | omega | (simp; done) | (simp; omega)) (by first | omega | (simp; done) | (simp; omega))
              go_simp
              (try with_reducible rfl)
            (try simp only [Act.put, List.setIfInBounds_toArray, List.set_cons_zero, List.set_cons_succ])
            refine wpAnyH_take (i := 20) (oi := ?oox9) (v := ?vvx9) ?hix9 (by kernel_rfl) (by kernel_rfl) (by kernel_rfl) ?hqx9 (Or.inl ⟨?hgx9, ?hyx9⟩) (by assumption) ?restx9
            case hix9 => simp only [List.getElem?_toArray, List.getElem?_cons_zero, List.getElem?_cons_succ]; rfl
            case hqx9 => exact fun _ _ _ h => h
            case hgx9 => rfl
            case hyx9 =>
              intro wq hSw
              replace hx0 := hSw.cell hx0 (by first | omega | (simp; done) | (simp; omega)) (by first | omega | (simp; done) | (simp; omega))
              replace hx1 := hSw.cell hx1 (by first | omega | (simp; done) | (simp; omega)) (by first | omega | (simp; done) | (simp; omega))
              go_simp
              (try with_reducible rfl)
            (try simp only [Act.put, List.setIfInBounds_toArray, List.set_cons_zero, List.set_cons_succ])
            refine wpAnyH_take (i := 21) (oi := ?oox10) (v := ?vvx10) ?hix10 (by kernel_rfl) (by kernel_rfl) (by kernel_rfl) ?hqx10 (Or.inl ⟨?hgx10, ?hyx10⟩) (by assumption) ?restx10
            case hix10 => simp only [List.getElem?_toArray, List.getElem?_cons_zero, List.getElem?_cons_succ]; rfl
            case hqx10 => exact fun _ _ _ h => h
            case hgx10 => rfl
            case hyx10 =>
              intro wq hSw
              replace hx0 := hSw.cell hx0 (by first | omega | (simp; done) | (simp; omega)) (by first | omega | (simp; done) | (simp; omega))
              replace hx1 := hSw.cell hx1 (by first | omega | (simp; done) | (simp; omega)) (by first | omega | (simp; done) | (simp; omega))
              go_simp
              (try with_reducible rfl)
            (try simp only [Act.put, List.setIfInBounds_toArray, List.set_cons_zero, List.set_cons_succ])
            refine wpAnyH_ready (rs := [2]) (by kernel_rfl) (by simp) ?_
            refine AllReadyH.cons (i := 2) (o := ?oox11) ?hox11 (fun K hK => ?hstepx11) AllReadyH.nil
            case hox11 => simp only [List.getElem?_toArray, List.getElem?_cons_zero, List.getElem?_cons_succ]; rfl
            go_simp
            have hrz := World.block_lt_of_cell? _ _ hr0
            simp only at hrz
            refine (HTO.out _ _ _ (h.below hw) (k.below hw) hpr).mono ?_
            rintro e1 wz ⟨A1, c1, rfl, hos, hb⟩
            obtain ⟨g1, rfl, hgs, hrs⟩ := hos.pos HLO.out
            have hT1 := hrs.cell (j := 0) HLO.out
            have hl1 : 0 < TO.length := HLO.out
            have hgr1 : w.heap.size + 1 < g1 := Nat.lt_of_lt_of_le hrz hgs
            clear hrs hos hgs hrz
            clear hpr
            go_wp2_with fail
            refine hK.out _ _ (hHeld.post hb) (fun _ => ?_)
            clear hK K
            (try simp only [Act.put, List.setIfInBounds_toArray, List.set_cons_zero, List.set_cons_succ])
            refine wpAnyH_mono (S' := fun w' => KeptBut wz w' (w.heap.size + 1) (w.heap.size + 1)) (fun _ h => (hHeld.post hb).trans2 h) _ _ _ _ ?_
            replace hx0 := keep_cell hb hx0
            replace hx1 := keep_cell hb hx1
            replace hf0 := keep_froz2 hb hr0 hf0
            replace hf1 := keep_froz2 hb hr1 hf1
            replace hr0 := keep_cell hb hr0
            replace hr1 := keep_cell hb hr1
            replace hw := keep_below hb hw
            clear hHeld hb
            have hHeld : KeptBut wz wz (w.heap.size + 1) (w.heap.size + 1) := (KeptBut.refl2 _ _)
            refine wpAnyH_take (i := 3) (oi := ?oox12) (v := ?vvx12) ?hix12 (by kernel_rfl) (by kernel_rfl) (by kernel_rfl) ?hqx12 (Or.inl ⟨?hgx12, ?hyx12⟩) (by assumption) ?restx12
            case hix12 => simp only [List.getElem?_toArray, List.getElem?_cons_zero, List.getElem?_cons_succ]; rfl
            case hqx12 => exact fun _ _ _ h => h
            case hgx12 => rfl
            case hyx12 =>
              intro wq hSw
              replace hx0 := hSw.cell hx0 (by first | omega | (simp; done) | (simp; omega)) (by first | omega | (simp; done) | (simp; omega))
              replace hx1 := hSw.cell hx1 (by first | omega | (simp; done) | (simp; omega)) (by first | omega | (simp; done) | (simp; omega))
              replace hT1 := hSw.cell hT1 (by first | omega | (simp; done) | (simp; omega)) (by first | omega | (simp; done) | (simp; omega))
              go_simp
              (try with_reducible rfl)
            (try simp only [Act.put, List.setIfInBounds_toArray, List.set_cons_zero, List.set_cons_succ])
            refine wpAnyH_take (i := 4) (oi := ?oox13) (v := ?vvx13) ?hix13 (by kernel_rfl) (by kernel_rfl) (by kernel_rfl) ?hqx13 (Or.inl ⟨?hgx13, ?hyx13⟩) (by assumption) ?restx13
            case hix13 => simp only [List.getElem?_toArray, List.getElem?_cons_zero, List.getElem?_cons_succ]; rfl
            case hqx13 => exact fun _ _ _ h => h
            case hgx13 => rfl
            case hyx13 =>
              intro wq hSw
              replace hx0 := hSw.cell hx0 (by first | omega | (simp; done) | (simp; omega)) (by first | omega | (simp; done) | (simp; omega))
              replace hx1 := hSw.cell hx1 (by first | omega | (simp; done) | (simp; omega)) (by first | omega | (simp; done) | (simp; omega))
              replace hT1 := hSw.cell hT1 (by first | omega | (simp; done) | (simp; omega)) (by first | omega | (simp; done) | (simp; omega))
              go_simp
              (try with_reducible rfl)
            (try simp only [Act.put, List.setIfInBounds_toArray, List.set_cons_zero, List.set_cons_succ])
            refine wpAnyH_take (i := 6) (oi := ?oox14) (v := ?vvx14) ?hix14 (by kernel_rfl) (by kernel_rfl) (by kernel_rfl) ?hqx14 (Or.inl ⟨?hgx14, ?hyx14⟩) (by assumption) ?restx14
            case hix14 => simp only [List.getElem?_toArray, List.getElem?_cons_zero, List.getElem?_cons_succ]; rfl
            case hqx14 => exact fun _ _ _ h => h
            case hgx14 => rfl
            case hyx14 =>
              intro wq hSw
              replace hx0 := hSw.cell hx0 (by first | omega | (simp; done) | (simp; omega)) (by first | omega | (simp; done) | (simp; omega))
              replace hx1 := hSw.cell hx1 (by first | omega | (simp; done) | (simp; omega)) (by first | omega | (simp; done) | (simp; omega))
              replace hT1 := hSw.cell hT1 (by first | omega | (simp; done) | (simp; omega)) (by first | omega | (simp; done) | (simp; omega))
              go_simp
              (try with_reducible rfl)
            (try simp only [Act.put, List.setIfInBounds_toArray, List.set_cons_zero, List.set_cons_succ])
            refine wpAnyH_ready (rs := [9]) (by kernel_rfl) (by simp) ?_
            refine AllReadyH.cons (i := 9) (o := ?oox15) ?hox15 (fun K hK => ?hstepx15) AllReadyH.nil
            case hox15 => simp only [List.getElem?_toArray, List.getElem?_cons_zero, List.getElem?_cons_succ]; rfl
            go_simp
            have hrz := World.block_lt_of_cell? _ _ hr0
            simp only at hrz
            refine (HTP.out _ (h.below hw) (k.below hw) (zp.below hw)).mono ?_
            rintro e1 wz ⟨A1, c1, rfl, hos, hb⟩
            obtain ⟨g2, rfl, hgs, hrs⟩ := hos.pos HLP.out
            have hT2 := hrs.cell (j := 0) HLP.out
            have hl2 : 0 < TP.length := HLP.out
            have hgr2 : w.heap.size + 1 < g2 := Nat.lt_of_lt_of_le hrz hgs
            clear hrs hos hgs hrz
            go_wp2_with fail
            refine hK.out _ _ (hHeld.post hb) (fun _ => ?_)
            clear hK K
            (try simp only [Act.put, List.setIfInBounds_toArray, List.set_cons_zero, List.set_cons_succ])
            refine wpAnyH_mono (S' := fun w' => KeptBut wz w' (w.heap.size + 1) (w.heap.size + 1)) (fun _ h => (hHeld.post hb).trans2 h) _ _ _ _ ?_
            replace hx0 := keep_cell hb hx0
            replace hx1 := keep_cell hb hx1
            replace hT1 := keep_cell hb hT1
            replace hf0 := keep_froz2 hb hr0 hf0
            replace hf1 := keep_froz2 hb hr1 hf1
            replace hr0 := keep_cell hb hr0
            replace hr1 := keep_cell hb hr1
            replace hw := keep_below hb hw
            clear hHeld hb
            have hHeld : KeptBut wz wz (w.heap.size + 1) (w.heap.size + 1) := (KeptBut.refl2 _ _)
            refine wpAnyH_take (i := 10) (oi := ?oox16) (v := ?vvx16) ?hix16 (by kernel_rfl) (by kernel_rfl) (by kernel_rfl) ?hqx16 (Or.inl ⟨?hgx16, ?hyx16⟩) (by assumption) ?restx16
            case hix16 => simp only [List.getElem?_toArray, List.getElem?_cons_zero, List.getElem?_cons_succ]; rfl
            case hqx16 => exact fun _ _ _ h => h
            case hgx16 => rfl
            case hyx16 =>
              intro wq hSw
              replace hx0 := hSw.cell hx0 (by first | omega | (simp; done) | (simp; omega)) (by first | omega | (simp; done) | (simp; omega))
              replace hx1 := hSw.cell hx1 (by first | omega | (simp; done) | (simp; omega)) (by first | omega | (simp; done) | (simp; omega))
              replace hT1 := hSw.cell hT1 (by first | omega | (simp; done) | (simp; omega)) (by first | omega | (simp; done) | (simp; omega))
              replace hT2 := hSw.cell hT2 (by first | omega | (simp; done) | (simp; omega)) (by first | omega | (simp; done) | (simp; omega))
              go_simp
              (try with_reducible rfl)
            (try simp only [Act.put, List.setIfInBounds_toArray, List.set_cons_zero, List.set_cons_succ])
            refine wpAnyH_take (i := 11) (oi := ?oox17) (v := ?vvx17) ?hix17 (by kernel_rfl) (by kernel_rfl) (by kernel_rfl) ?hqx17 (Or.inl ⟨?hgx17, ?hyx17⟩) (by assumption) ?restx17
            case hix17 => simp only [List.getElem?_toArray, List.getElem?_cons_zero, List.getElem?_cons_succ]; rfl
            case hqx17 => exact fun _ _ _ h => h
            case hgx17 => rfl
            case hyx17 =>
              intro wq hSw
              replace hx0 := hSw.cell hx0 (by first | omega | (simp; done) | (simp; omega)) (by first | omega | (simp; done) | (simp; omega))
              replace hx1 := hSw.cell hx1 (by first | omega | (simp; done) | (simp; omega)) (by first | omega | (simp; done) | (simp; omega))
              replace hT1 := hSw.cell hT1 (by first | omega | (simp; done) | (simp; omega)) (by first | omega | (simp; done) | (simp; omega))
              replace hT2 := hSw.cell hT2 (by first | omega | (simp; done) | (simp; omega)) (by first | omega | (simp; done) | (simp; omega))
              go_simp
              (try with_reducible rfl)
            (try simp only [Act.put, List.setIfInBounds_toArray, List.set_cons_zero, List.set_cons_succ])
            refine wpAnyH_ready (rs := [14]) (by kernel_rfl) (by simp) ?_
            refine AllReadyH.cons (i := 14) (o := ?oox18) ?hox18 (fun K hK => ?hstepx18) AllReadyH.nil
            case hox18 => simp only [List.getElem?_toArray, List.getElem?_cons_zero, List.getElem?_cons_succ]; rfl
            go_simp
            have hrz := World.block_lt_of_cell? _ _ hr0
            simp only at hrz
            refine (HTQ.out _ (h.below hw) (k.below hw) (zq.below hw)).mono ?_
            rintro e1 wz ⟨A1, c1, rfl, hos, hb⟩
            obtain ⟨g3, rfl, hgs, hrs⟩ := hos.pos HLQ.out
            have hT3 := hrs.cell (j := 0) HLQ.out
            have hl3 : 0 < TQ.length := HLQ.out
            have hgr3 : w.heap.size + 1 < g3 := Nat.lt_of_lt_of_le hrz hgs
            clear hrs hos hgs hrz
            go_wp2_with fail
            refine hK.out _ _ (hHeld.post hb) (fun _ => ?_)
            clear hK K
            (try simp only [Act.put, List.setIfInBounds_toArray, List.set_cons_zero, List.set_cons_succ])
            refine wpAnyH_mono (S' := fun w' => KeptBut wz w' (w.heap.size + 1) (w.heap.size + 1)) (fun _ h => (hHeld.post hb).trans2 h) _ _ _ _ ?_
            replace hx0 := keep_cell hb hx0
            replace hx1 := keep_cell hb hx1
            replace hT1 := keep_cell hb hT1
            replace hT2 := keep_cell hb hT2
            replace hf0 := keep_froz2 hb hr0 hf0
            replace hf1 := keep_froz2 hb hr1 hf1
            replace hr0 := keep_cell hb hr0
            replace hr1 := keep_cell hb hr1
            replace hw := keep_below hb hw
            clear hHeld hb
            have hHeld : KeptBut wz wz (w.heap.size + 1) (w.heap.size + 1) := (KeptBut.refl2 _ _)
            refine wpAnyH_take (i := 15) (oi := ?oox19) (v := ?vvx19) ?hix19 (by kernel_rfl) (by kernel_rfl) (by kernel_rfl) ?hqx19 (Or.inl ⟨?hgx19, ?hyx19⟩) (by assumption) ?restx19
            case hix19 => simp only [List.getElem?_toArray, List.getElem?_cons_zero, List.getElem?_cons_succ]; rfl
            case hqx19 => exact fun _ _ _ h => h
            case hgx19 => rfl
            case hyx19 =>
              intro wq hSw
              replace hx0 := hSw.cell hx0 (by first | omega | (simp; done) | (simp; omega)) (by first | omega | (simp; done) | (simp; omega))
              replace hx1 := hSw.cell hx1 (by first | omega | (simp; done) | (simp; omega)) (by first | omega | (simp; done) | (simp; omega))
              replace hT1 := hSw.cell hT1 (by first | omega | (simp; done) | (simp; omega)) (by first | omega | (simp; done) | (simp; omega))
              replace hT2 := hSw.cell hT2 (by first | omega | (simp; done) | (simp; omega)) (by first | omega | (simp; done) | (simp; omega))
              replace hT3 := hSw.cell hT3 (by first | omega | (simp; done) | (simp; omega)) (by first | omega | (simp; done) | (simp; omega))
              go_simp
              (try with_reducible rfl)
            (try simp only [Act.put, List.setIfInBounds_toArray, List.set_cons_zero, List.set_cons_succ])
            refine wpAnyH_take (i := 16) (oi := ?oox20) (v := ?vvx20) ?hix20 (by kernel_rfl) (by kernel_rfl) (by kernel_rfl) ?hqx20 (Or.inl ⟨?hgx20, ?hyx20⟩) (by assumption) ?restx20
            case hix20 => simp only [List.getElem?_toArray, List.getElem?_cons_zero, List.getElem?_cons_succ]; rfl
            case hqx20 => exact fun _ _ _ h => h
            case hgx20 => rfl
            case hyx20 =>
              intro wq hSw
              replace hx0 := hSw.cell hx0 (by first | omega | (simp; done) | (simp; omega)) (by first | omega | (simp; done) | (simp; omega))
              replace hx1 := hSw.cell hx1 (by first | omega | (simp; done) | (simp; omega)) (by first | omega | (simp; done) | (simp; omega))
              replace hT1 := hSw.cell hT1 (by first | omega | (simp; done) | (simp; omega)) (by first | omega | (simp; done) | (simp; omega))
              replace hT2 := hSw.cell hT2 (by first | omega | (simp; done) | (simp; omega)) (by first | omega | (simp; done) | (simp; omega))
              replace hT3 := hSw.cell hT3 (by first | omega | (simp; done) | (simp; omega)) (by first | omega | (simp; done) | (simp; omega))
              go_simp
              (try with_reducible rfl)
            (try simp only [Act.put, List.setIfInBounds_toArray, List.set_cons_zero, List.set_cons_succ])
            refine wpAnyH_take (i := 17) (oi := ?oox21) (v := ?vvx21) ?hix21 (by kernel_rfl) (by kernel_rfl) (by kernel_rfl) ?hqx21 (Or.inl ⟨?hgx21, ?hyx21⟩) (by assumption) ?restx21
            case hix21 => simp only [List.getElem?_toArray, List.getElem?_cons_zero, List.getElem?_cons_succ]; rfl
            case hqx21 => exact fun _ _ _ h => h
            case hgx21 => rfl
            case hyx21 =>
              intro wq hSw
              replace hx0 := hSw.cell hx0 (by first | omega | (simp; done) | (simp; omega)) (by first | omega | (simp; done) | (simp; omega))
              replace hx1 := hSw.cell hx1 (by first | omega | (simp; done) | (simp; omega)) (by first | omega | (simp; done) | (simp; omega))
              replace hT1 := hSw.cell hT1 (by first | omega | (simp; done) | (simp; omega)) (by first | omega | (simp; done) | (simp; omega))
              replace hT2 := hSw.cell hT2 (by first | omega | (simp; done) | (simp; omega)) (by first | omega | (simp; done) | (simp; omega))
              replace hT3 := hSw.cell hT3 (by first | omega | (simp; done) | (simp; omega)) (by first | omega | (simp; done) | (simp; omega))
              go_simp
              (try with_reducible rfl)
            (try simp only [Act.put, List.setIfInBounds_toArray, List.set_cons_zero, List.set_cons_succ])
            refine wpAnyH_take (i := 18) (oi := ?oox22) (v := ?vvx22) ?hix22 (by kernel_rfl) (by kernel_rfl) (by kernel_rfl) ?hqx22 (Or.inl ⟨?hgx22, ?hyx22⟩) (by assumption) ?restx22
            case hix22 => simp only [List.getElem?_toArray, List.getElem?_cons_zero, List.getElem?_cons_succ]; rfl
            case hqx22 => exact fun _ _ _ h => h
            case hgx22 => rfl
            case hyx22 =>
              intro wq hSw
              replace hx0 := hSw.cell hx0 (by first | omega | (simp; done) | (simp; omega)) (by first | omega | (simp; done) | (simp; omega))
              replace hx1 := hSw.cell hx1 (by first | omega | (simp; done) | (simp; omega)) (by first | omega | (simp; done) | (simp; omega))
              replace hT1 := hSw.cell hT1 (by first | omega | (simp; done) | (simp; omega)) (by first | omega | (simp; done) | (simp; omega))
              replace hT2 := hSw.cell hT2 (by first | omega | (simp; done) | (simp; omega)) (by first | omega | (simp; done) | (simp; omega))
              replace hT3 := hSw.cell hT3 (by first | omega | (simp; done) | (simp; omega)) (by first | omega | (simp; done) | (simp; omega))
              go_simp
              (try with_reducible rfl)
            (try simp only [Act.put, List.setIfInBounds_toArray, List.set_cons_zero, List.set_cons_succ])
            refine wpAnyH_ready (rs := [22]) (by kernel_rfl) (by simp) ?_
            refine AllReadyH.cons (i := 22) (o := ?oox23) ?hox23 (fun K hK => ?hstepx23) AllReadyH.nil
            case hox23 => simp only [List.getElem?_toArray, List.getElem?_cons_zero, List.getElem?_cons_succ]; rfl
            go_simp
            refine (HC.out _).mono ?_
            rintro e1 wz ⟨rfl, hb⟩
            go_wp2_with fail
            refine hK.out _ _ (hHeld.post hb) (fun _ => ?_)
            clear hK K
            (try simp only [Act.put, List.setIfInBounds_toArray, List.set_cons_zero, List.set_cons_succ])
            refine wpAnyH_mono (S' := fun w' => KeptBut wz w' (w.heap.size + 1) (w.heap.size + 1)) (fun _ h => (hHeld.post hb).trans2 h) _ _ _ _ ?_
            replace hx0 := keep_cell hb hx0
            replace hx1 := keep_cell hb hx1
            replace hT1 := keep_cell hb hT1
            replace hT2 := keep_cell hb hT2
            replace hT3 := keep_cell hb hT3
            replace hf0 := keep_froz2 hb hr0 hf0
            replace hf1 := keep_froz2 hb hr1 hf1
            replace hr0 := keep_cell hb hr0
            replace hr1 := keep_cell hb hr1
            replace hw := keep_below hb hw
            clear hHeld hb
            have hHeld : KeptBut wz wz (w.heap.size + 1) (w.heap.size + 1) := (KeptBut.refl2 _ _)
            refine wpAnyH_ready (rs := [23]) (by kernel_rfl) (by simp) ?_
            refine AllReadyH.cons (i := 23) (o := ?oox24) ?hox24 (fun K hK => ?hstepx24) AllReadyH.nil
            case hox24 => simp only [List.getElem?_toArray, List.getElem?_cons_zero, List.getElem?_cons_succ]; rfl
            go_simp
            refine (HK.out _).mono ?_
            rintro e1 wz ⟨rfl, hb⟩
            go_wp2_with fail
            refine hK.out _ _ (hHeld.post hb) (fun _ => ?_)
            clear hK K
            (try simp only [Act.put, List.setIfInBounds_toArray, List.set_cons_zero, List.set_cons_succ])
            refine wpAnyH_mono (S' := fun w' => KeptBut wz w' (w.heap.size + 1) (w.heap.size + 1)) (fun _ h => (hHeld.post hb).trans2 h) _ _ _ _ ?_
            replace hx0 := keep_cell hb hx0
            replace hx1 := keep_cell hb hx1
            replace hT1 := keep_cell hb hT1
            replace hT2 := keep_cell hb hT2
            replace hT3 := keep_cell hb hT3
            replace hf0 := keep_froz2 hb hr0 hf0
            replace hf1 := keep_froz2 hb hr1 hf1
            replace hr0 := keep_cell hb hr0
            replace hr1 := keep_cell hb hr1
            replace hw := keep_below hb hw
            clear hHeld hb
            have hHeld : KeptBut wz wz (w.heap.size + 1) (w.heap.size + 1) := (KeptBut.refl2 _ _)
            refine wpAnyH_take (i := 24) (oi := ?oox25) (v := ?vvx25) ?hix25 (by kernel_rfl) (by kernel_rfl) (by kernel_rfl) ?hqx25 (Or.inl ⟨?hgx25, ?hyx25⟩) (by assumption) ?restx25
            case hix25 => simp only [List.getElem?_toArray, List.getElem?_cons_zero, List.getElem?_cons_succ]; rfl
            case hqx25 => exact fun _ _ _ h => h
            case hgx25 => rfl
            case hyx25 =>
              intro wq hSw
              replace hx0 := hSw.cell hx0 (by first | omega | (simp; done) | (simp; omega)) (by first | omega | (simp; done) | (simp; omega))
              replace hx1 := hSw.cell hx1 (by first | omega | (simp; done) | (simp; omega)) (by first | omega | (simp; done) | (simp; omega))
              replace hT1 := hSw.cell hT1 (by first | omega | (simp; done) | (simp; omega)) (by first | omega | (simp; done) | (simp; omega))
              replace hT2 := hSw.cell hT2 (by first | omega | (simp; done) | (simp; omega)) (by first | omega | (simp; done) | (simp; omega))
              replace hT3 := hSw.cell hT3 (by first | omega | (simp; done) | (simp; omega)) (by first | omega | (simp; done) | (simp; omega))
              go_simp
              (try with_reducible rfl)
            (try simp only [Act.put, List.setIfInBounds_toArray, List.set_cons_zero, List.set_cons_succ])
            refine wpAnyH_take (i := 25) (oi := ?oox26) (v := ?vvx26) ?hix26 (by kernel_rfl) (by kernel_rfl) (by kernel_rfl) ?hqx26 (Or.inl ⟨?hgx26, ?hyx26⟩) (by assumption) ?restx26
            case hix26 => simp only [List.getElem?_toArray, List.getElem?_cons_zero, List.getElem?_cons_succ]; rfl
            case hqx26 => exact fun _ _ _ h => h
            case hgx26 => rfl
            case hyx26 =>
              intro wq hSw
              replace hx0 := hSw.cell hx0 (by first | omega | (simp; done) | (simp; omega)) (by first | omega | (simp; done) | (simp; omega))
              replace hx1 := hSw.cell hx1 (by first | omega | (simp; done) | (simp; omega)) (by first | omega | (simp; done) | (simp; omega))
              replace hT1 := hSw.cell hT1 (by first | omega | (simp; done) | (simp; omega)) (by first | omega | (simp; done) | (simp; omega))
              replace hT2 := hSw.cell hT2 (by first | omega | (simp; done) | (simp; omega)) (by first | omega | (simp; done) | (simp; omega))
              replace hT3 := hSw.cell hT3 (by first | omega | (simp; done) | (simp; omega)) (by first | omega | (simp; done) | (simp; omega))
              go_simp
              (try with_reducible rfl)
            (try simp only [Act.put, List.setIfInBounds_toArray, List.set_cons_zero, List.set_cons_succ])
            refine wpAnyH_ready (rs := [26]) (by kernel_rfl) (by simp) ?_
            refine AllReadyH.cons (i := 26) (o := ?oox27) ?hox27 (fun K hK => ?hstepx27) AllReadyH.nil
            case hox27 => simp only [List.getElem?_toArray, List.getElem?_cons_zero, List.getElem?_cons_succ]; rfl
            go_simp
            refine hK.out _ _ (((KeptBut.refl2 _ _).setg _ _).setg _ _) (fun hHeld2 => ?_)
            clear hK K
            (try simp only [Act.put, List.setIfInBounds_toArray, List.set_cons_zero, List.set_cons_succ])
            refine wpAnyH_take (i := 27) (oi := ?oox28) (v := ?vvx28) ?hix28 (by kernel_rfl) (by kernel_rfl) (by kernel_rfl) ?hqx28 (Or.inl ⟨?hgx28, ?hyx28⟩) (by assumption) ?restx28
            case hix28 => simp only [List.getElem?_toArray, List.getElem?_cons_zero, List.getElem?_cons_succ]; rfl
            case hqx28 => exact fun _ _ _ h => h
            case hgx28 => rfl
            case hyx28 =>
              intro wq hSw
              replace hx0 := hSw.cell hx0 (by first | omega | (simp; done) | (simp; omega)) (by first | omega | (simp; done) | (simp; omega))
              replace hx1 := hSw.cell hx1 (by first | omega | (simp; done) | (simp; omega)) (by first | omega | (simp; done) | (simp; omega))
              replace hT1 := hSw.cell hT1 (by first | omega | (simp; done) | (simp; omega)) (by first | omega | (simp; done) | (simp; omega))
              replace hT2 := hSw.cell hT2 (by first | omega | (simp; done) | (simp; omega)) (by first | omega | (simp; done) | (simp; omega))
              replace hT3 := hSw.cell hT3 (by first | omega | (simp; done) | (simp; omega)) (by first | omega | (simp; done) | (simp; omega))
              go_simp
              (try with_reducible rfl)
            (try simp only [Act.put, List.setIfInBounds_toArray, List.set_cons_zero, List.set_cons_succ])
            clear hHeld
            refine wpAnyH_done (by kernel_rfl) ?_ _
            go_wp2
            refine bodyPost_ret (v := .tuple #[.agg #[.int .i64 N, .int .i64 M], .bool O]) (by simp (maxDischargeDepth := 9) [results, Try.results67, go_sem, *]) rfl ⟨rfl, ?_⟩
            (repeat (first | with_reducible exact Below.refl _ _ | with_reducible assumption | with_reducible refine Below.alloc' ?_ ?_ _ | with_reducible refine Below.setCell' ?_ ?_ _ | with_reducible refine Below.drewN' ?_ _ | with_reducible refine Below.drew ?_ | with_reducible refine Below.transA ?_ (by assumption) ?_ | omega | (focus (simp; done)) | (focus (simp; omega))))
set_option maxHeartbeats 2000000 in
set_option maxRecDepth 100000 in
theorem covariance_good (A B : Option Addr) (c e : Nat) (xs ys : List Int) (P : Option Addr) (cp : Nat) (ps : List Int) (Q : Option Addr) (cq : Nat) (qs : List Int) (w : World) (hg : good xs ys = true) (q2 : payB xs ps = true) (q3 : payB xs qs = true) (h : IntS w A xs) (k : IntS w B ys) (zp : IntS w P ps) (zq : IntS w Q qs) :
    Calls Try.prog 133 #[.agg #[.slice A xs.length c, .slice B ys.length e], .slice P ps.length cp, .slice Q qs.length cq] w (RetAB w (lowN (covA xs ys ps qs) (covB xs ys)) (lowM (covA xs ys ps qs) (covB xs ys)) (lowOk (covA xs ys ps qs) (covB xs ys))) := by
  have hpp := (pay_iff q2).2
  have hqq := (pay_iff q3).2
  have lp1 := (pay_iff q2).1
  have lq1 := (pay_iff q3).1
  have hel := ends_len xs
  have hgl := good_len hg
  have hcb := cov_bd hg q2 q3
  have HL : Hid (1 ≤ (sumsL xs ys).length) := by have := sums_len hg; show 1 ≤ _; omega
  have HTL : Hid (∀ vs, (totL xs ys vs).length = xs.length) := fun vs => tot_len
  have HSu := Lib.hid (fun W (h : IntS W A xs) (k : IntS W B ys) => sums_good hg A B c e W h k)
  have HSP := Lib.hid (fun W (h : IntS W A xs) (k : IntS W B ys) (z : IntS W P ps) => spread_any hg A B P c e cp ps W h k z lp1 999 (by omega) (fun j => by have := hpp j; omega))
  have HSQ := Lib.hid (fun W (h : IntS W A xs) (k : IntS W B ys) (z : IntS W Q qs) => spread_any hg A B Q c e cq qs W h k z lq1 999 (by omega) (fun j => by have := hqq j; omega))
  have HSO := Lib.hid (fun W (R : Option Addr) (cr : Nat) (h : IntS W A xs) (k : IntS W B ys) (z : IntS W R (prdL ps qs ps.length)) => spread_any hg A B R c e cr (prdL ps qs ps.length) W h k z (by rw [prdL_len]; exact lp1) 998001 (by omega) (prdL_bd hpp hqq _))
  have HTP := Lib.hid (fun W (R : Option Addr) (cr : Nat) (h : IntS W A xs) (z : IntS W R (sprL xs.length ys (endsL xs) ps (endsL xs).length)) => gath_good hg A B R c e cr ps W h 999 (by omega) (fun j => by have := hpp j; omega) z)
  have HTQ := Lib.hid (fun W (R : Option Addr) (cr : Nat) (h : IntS W A xs) (z : IntS W R (sprL xs.length ys (endsL xs) qs (endsL xs).length)) => gath_good hg A B R c e cr qs W h 999 (by omega) (fun j => by have := hqq j; omega) z)
  have HTO := Lib.hid (fun W (R : Option Addr) (cr : Nat) (h : IntS W A xs) (z : IntS W R (sprL xs.length ys (endsL xs) (prdL ps qs ps.length) (endsL xs).length)) => gath_good hg A B R c e cr (prdL ps qs ps.length) W h 998001 (by omega) (prdL_bd hpp hqq _) z)
  generalize sprL xs.length ys (endsL xs) ps (endsL xs).length = FP at *
  generalize sprL xs.length ys (endsL xs) qs (endsL xs).length = FQ at *
  generalize sprL xs.length ys (endsL xs) (prdL ps qs ps.length) (endsL xs).length = FO at *
  have HPL := Lib.hid (fun k => prdL_len ps qs k)
  have HPS := Lib.hid (fun k => prdL_succ ps qs k)
  have HP0 : Hid (prdL ps qs 0 = []) := rfl
  have HPB := Lib.hid (fun j => And.intro (hpp j) (hqq j))
  have HN1 : Hid (1 ≤ xs.length) := hgl.1
  have HSL : Hid ((sumsL xs ys).length = xs.length) := sums_len hg
  have lpb : ps.length ≤ 24 := by omega
  have lqp : Hid (qs.length = ps.length) := by show _ = _; rw [lp1, lq1]
  unfold covA covB
  generalize sumsL xs ys = S at *
  obtain ⟨TO, eO⟩ : ∃ T, totL xs ys (prdL ps qs ps.length) = T := ⟨_, rfl⟩
  obtain ⟨TP, eP⟩ : ∃ T, totL xs ys ps = T := ⟨_, rfl⟩
  obtain ⟨TQ, eQ⟩ : ∃ T, totL xs ys qs = T := ⟨_, rfl⟩
  have HTLO := HTL.out (prdL ps qs ps.length)
  have HTLP := HTL.out ps
  have HTLQ := HTL.out qs
  rw [eO] at HTO hcb HTLO ⊢
  rw [eP] at HTP hcb HTLP ⊢
  rw [eQ] at HTQ hcb HTLQ ⊢
  obtain ⟨v1, v2, v3, v4, v5⟩ := hcb
  have HLO : Hid (1 ≤ TO.length) := by show 1 ≤ _; rw [HTLO]; exact hgl.1
  have HLP : Hid (1 ≤ TP.length) := by show 1 ≤ _; rw [HTLP]; exact hgl.1
  have HLQ : Hid (1 ≤ TQ.length) := by show 1 ≤ _; rw [HTLQ]; exact hgl.1
  have b1 := mul_bd (A := 479040480) (D := 480) (a := nth TO 0) (d := nth S 0) v1 (by omega)
  have b2 := mul_bd (A := 479520) (D := 479520) (a := nth TP 0) (d := nth TQ 0) v2 v3
  have b3 := mul_bd (A := 480) (D := 480) (a := nth S 0) (d := nth S 0) (by omega) (by omega)
  have b4 : 1 ≤ nth S 0 * nth S 0 := by have := Int.mul_le_mul (a := 1) (b := 1) (c := nth S 0) (d := nth S 0) v4 v4 (by omega) (by omega); omega
  have u1 : IntKind.i64.wrap (nth TO 0 * nth S 0) = nth TO 0 * nth S 0 := IntWalk.i64_in _ (by omega)
  have u2 : IntKind.i64.wrap (nth TP 0 * nth TQ 0) = nth TP 0 * nth TQ 0 := IntWalk.i64_in _ (by omega)
  have u3 : IntKind.i64.wrap (nth S 0 * nth S 0) = nth S 0 * nth S 0 := IntWalk.i64_in _ (by omega)
  have u4 : IntKind.i64.wrap (nth TO 0 * nth S 0 - nth TP 0 * nth TQ 0) = nth TO 0 * nth S 0 - nth TP 0 * nth TQ 0 := IntWalk.i64_in _ (by omega)
  have HC := Lib.hid (fun W => lowest_any (nth TO 0 * nth S 0 - nth TP 0 * nth TQ 0) (nth S 0 * nth S 0) W (by omega) (by omega) (by omega))
  clear hpp hqq lp1 lq1 hel hgl HTL eO eP eQ HTLO HTLP HTLQ v1 v2 v3 v4 v5 b1 b2 b3 b4
  generalize lowN (nth TO 0 * nth S 0 - nth TP 0 * nth TQ 0) (nth S 0 * nth S 0) = N at *
  generalize lowM (nth TO 0 * nth S 0 - nth TP 0 * nth TQ 0) (nth S 0 * nth S 0) = M at *
  generalize lowOk (nth TO 0 * nth S 0 - nth TP 0 * nth TQ 0) (nth S 0 * nth S 0) = O at *
  clear hg q2 q3
  obtain ⟨i0, hi, hz0, hz1, hz2⟩ := info_parts info_int
  go_enter Try.func133, Try.ntmps133
  go_wp2
  go_loopw [8, 18] (fun v i wr => ∃ j : Nat, j ≤ ps.length ∧ i = .int .i64 j ∧ wr.ownsRow (w.heap.size + 1) 3 1 v (prdL ps qs j).length (i64s (prdL ps qs j)) ∧ v.ownBlock ≠ some (w.heap.size + 1) ∧ wr.cell? ⟨w.heap.size, 0, none⟩ = some (.slice A xs.length c) ∧ wr.cell? ⟨w.heap.size, 1, none⟩ = some (.slice B ys.length e) ∧ wr.cell? ⟨w.heap.size + 1, 0, none⟩ = some (.int .i64 0) ∧ wr.cell? ⟨w.heap.size + 1, 1, none⟩ = some (.int .i64 0) ∧ wr.frozen? ⟨w.heap.size + 1, 0, none⟩ = false ∧ wr.frozen? ⟨w.heap.size + 1, 1, none⟩ = false ∧ Below w.heap.size w wr) (fun _ i _ => ps.length - (intOf i).toNat)
  case atStart =>
    obtain ⟨t0, t1, t2, t3, t4, t5⟩ := alloc3 w (.slice A xs.length c) (.slice B ys.length e) (.int .i64 0) (.int .i64 0) 28 51 (.cells #[] 3) rfl
    exact ⟨0, by omega, rfl, own_empty _ _ _ (by simp) (by simp), (by simp [Value.ownBlock]), t0, t1, t2, t3, t4, t5, by (repeat (first | with_reducible exact Below.refl _ _ | with_reducible assumption | with_reducible refine Below.alloc' ?_ ?_ _ | with_reducible refine Below.setCell' ?_ ?_ _ | with_reducible refine Below.drewN' ?_ _ | with_reducible refine Below.drew ?_ | with_reducible refine Below.transA ?_ (by assumption) ?_ | omega | (focus (simp; done)) | (focus (simp; omega))))⟩
  case round =>
    skip
    obtain ⟨j, hj, rfl, hown, hne, hx0, hx1, hr0, hr1, hf0, hf1, hw⟩ := hrel
    have hlen := HPL.out j
    have hlx := World.block_lt_of_cell? _ _ hr0
    replace hlx : w.heap.size + 1 < wr.heap.size := hlx
    by_cases hlt : j < ps.length
    · obtain ⟨b1, o1, rfl, hcp⟩ := zp.at_ (j := j) hlt
      obtain ⟨b2, o2, rfl, hcq⟩ := zq.at_ (j := j) (by rw [lqp.out]; exact hlt)
      have l1 : b1 < w.heap.size := World.block_lt_of_cell? _ _ hcp
      have l2 : b2 < w.heap.size := World.block_lt_of_cell? _ _ hcq
      replace hcp := (hw.cell l1).trans hcp
      replace hcq := (hw.cell l2).trans hcq
      have hb := HPB.out j
      have hps := HPS.out j
      have hpi : (j : Int) < ps.length := by omega
      have hqi : (j : Int) < qs.length := by rw [lqp.out]; omega
      obtain ⟨x, hx⟩ : ∃ x, nth ps j = x := ⟨_, rfl⟩
      obtain ⟨y, hy⟩ : ∃ y, nth qs j = y := ⟨_, rfl⟩
      rw [hx, hy] at hps hb
      rw [hx] at hcp
      rw [hy] at hcq
      have hmb := mul_bd (A := 999) (D := 999) hb.1 hb.2
      obtain ⟨m, hm⟩ : ∃ m, x * y = m := ⟨_, rfl⟩
      have u9 : IntKind.i64.wrap (x * y) = m := by rw [hm]; exact IntWalk.i64_in _ (by omega)
      have u8 : IntKind.i64.wrap m = m := IntWalk.i64_in _ (by omega)
      rw [hm] at hps
      have HPX : Hid (i64s (prdL ps qs (j + 1)) = i64s (prdL ps qs j) ++ [Value.int .i64 m] ∧ (prdL ps qs (j + 1)).length = (prdL ps qs j).length + 1) := by rw [hps]; exact ⟨i64s_app _ _, by simp⟩
      have hlen2 : (prdL ps qs j).length ≤ 24 := by rw [hlen]; omega
      clear hx hy hb hps hlen u1 u2 u3 u4 
      generalize prdL ps qs j = L at *
      have W0 : w.heap.size + 1 < wr.heap.size := hlx
      go_wp2_with (at_builtin; (refine wpList_append_own_at _ rfl _ _ 22 rfl (w.heap.size + 1) 3 i0 (.int .i64 0) 1 8 Try.underlying22 hi hz0 hz1 hz2 rfl (by decide) _ _ _ rfl (hown.alloc _) ⟨wr.heap.size, 0, none⟩ 1 1 [.int .i64 (m)] rfl rfl (cell_one_new _ _ _) (by simp [Value.oneCell']) (by unfold maxLen; omega) (by omega) (by simp; omega) ?_); intro v' w1 hown1 hgrow _ hat)
      have hq0 := grown_cell hgrow (p := ⟨w.heap.size, 0, none⟩) (by rw [World.cell?_alloc_lt _ _ _ (show w.heap.size < wr.heap.size by omega)]; exact hx0) (own_ne (g := w.heap.size) hown (by omega))
      have hq1 := grown_cell hgrow (p := ⟨w.heap.size, 1, none⟩) (by rw [World.cell?_alloc_lt _ _ _ (show w.heap.size < wr.heap.size by omega)]; exact hx1) (own_ne (g := w.heap.size) hown (by omega))
      have hq2 := grown_cell hgrow (p := ⟨w.heap.size + 1, 0, none⟩) (by rw [World.cell?_alloc_lt _ _ _ (show w.heap.size + 1 < wr.heap.size by omega)]; exact hr0) hne
      have hq3 := grown_cell hgrow (p := ⟨w.heap.size + 1, 1, none⟩) (by rw [World.cell?_alloc_lt _ _ _ (show w.heap.size + 1 < wr.heap.size by omega)]; exact hr1) hne
      have hq4 : w1.frozen? ⟨w.heap.size + 1, 0, none⟩ = false := (hgrow.frozen_far ⟨w.heap.size + 1, 0, none⟩ (by show w.heap.size + 1 < _; simp; omega) (fun e => hne e.symm)).trans ((((Below.refl wr.heap.size wr).alloc (Nat.le_refl _) _).frozen (show w.heap.size + 1 < wr.heap.size by omega)).trans hf0)
      have hq5 : w1.frozen? ⟨w.heap.size + 1, 1, none⟩ = false := (hgrow.frozen_far ⟨w.heap.size + 1, 1, none⟩ (by show w.heap.size + 1 < _; simp; omega) (fun e => hne e.symm)).trans ((((Below.refl wr.heap.size wr).alloc (Nat.le_refl _) _).frozen (show w.heap.size + 1 < wr.heap.size by omega)).trans hf1)
      have hb3 : Below w.heap.size w w1 := Below.grown (hw.alloc hw.size _) hgrow (by have := hw.size; simp; omega) (fun g hg => by have := (hown.lt g hg).1; omega)
      have hne1 : v'.ownBlock ≠ some (w.heap.size + 1) := by
        rcases hat with e | e
        · rw [e]; exact hne
        · rw [e]; simp; omega
      rw [← HPX.out.1, ← HPX.out.2] at hown1
      clear hown hgrow hw HPX hx0 hx1 hr0 hr1 hf0 hf1 hne hat
      go_wp2
      go_roundw
      case rel => exact ⟨j + 1, by omega, by go_num, hown1, hne1, hq0, hq1, hq2, hq3, hq4, hq5, hb3⟩
      case measure => simp only [intOf]; omega
    · have hje : j = ps.length := by omega
      rw [hje] at hown
      obtain ⟨A', c', rfl, hO⟩ := own_form hown
      have hpr := hO.ints
      clear hown hO hlen
      have hli : (prdL ps qs ps.length).length ≤ 24 := by rw [HPL.out]; exact lpb
      subst hje
      go_wp2_with fail
      refine (HSu.out _ (h.below hw) (k.below hw)).mono ?_
      rintro e1 wa ⟨As, cs, rfl, hos, hb⟩
      obtain ⟨gs, rfl, hgs, hrs⟩ := hos.pos HL.out
      have hS0 := hrs.cell (j := 0) HL.out
      have hl0 : 0 < S.length := HL.out
      replace hf0 := keep_froz2 hb hr0 hf0
      replace hf1 := keep_froz2 hb hr1 hf1
      replace hx0 := keep_cell hb hx0
      replace hx1 := keep_cell hb hx1
      replace hr0 := keep_cell hb hr0
      replace hr1 := keep_cell hb hr1
      replace hpr := hpr.below hb
      replace hw := keep_below hb hw
      clear hb hos hrs
      go_wp2
      refine wp_region_held_drew (S := fun w' => Below wa.heap.size wa w') (by kernel_rfl) ((Below.refl _ _)).drew (fun hHeld => ?_)
      replace hw := hw.drew
      refine wpAnyH_take (i := 0) (oi := ?ooy1) (v := ?vvy1) ?hiy1 (by kernel_rfl) (by kernel_rfl) (by kernel_rfl) ?hqy1 (Or.inl ⟨?hgy1, ?hyy1⟩) (by assumption) ?resty1
      case hiy1 => simp only [List.getElem?_toArray, List.getElem?_cons_zero]; rfl
      case hqy1 => exact fun _ _ _ h => h
      case hgy1 => rfl
      case hyy1 =>
        intro wq hSw
        replace hx0 := keep_cell hSw hx0
        replace hx1 := keep_cell hSw hx1
        replace hr0 := keep_cell hSw hr0
        replace hr1 := keep_cell hSw hr1
        go_simp
        (try with_reducible rfl)
      (try simp only [Act.put, List.setIfInBounds_toArray, List.set_cons_zero, List.set_cons_succ])
      refine wpAnyH_take (i := 1) (oi := ?ooy2) (v := ?vvy2) ?hiy2 (by kernel_rfl) (by kernel_rfl) (by kernel_rfl) ?hqy2 (Or.inl ⟨?hgy2, ?hyy2⟩) (by assumption) ?resty2
      case hiy2 => simp only [List.getElem?_toArray, List.getElem?_cons_zero, List.getElem?_cons_succ]; rfl
      case hqy2 => exact fun _ _ _ h => h
      case hgy2 => rfl
      case hyy2 =>
        intro wq hSw
        replace hx0 := keep_cell hSw hx0
        replace hx1 := keep_cell hSw hx1
        replace hr0 := keep_cell hSw hr0
        replace hr1 := keep_cell hSw hr1
        go_simp
        (try with_reducible rfl)
      (try simp only [Act.put, List.setIfInBounds_toArray, List.set_cons_zero, List.set_cons_succ])
      refine wpAnyH_take (i := 2) (oi := ?ooy3) (v := ?vvy3) ?hiy3 (by kernel_rfl) (by kernel_rfl) (by kernel_rfl) ?hqy3 (Or.inl ⟨?hgy3, ?hyy3⟩) (by assumption) ?resty3
      case hiy3 => simp only [List.getElem?_toArray, List.getElem?_cons_zero, List.getElem?_cons_succ]; rfl
      case hqy3 => exact fun _ _ _ h => h
      case hgy3 => rfl
      case hyy3 =>
        intro wq hSw
        replace hx0 := keep_cell hSw hx0
        replace hx1 := keep_cell hSw hx1
        replace hr0 := keep_cell hSw hr0
        replace hr1 := keep_cell hSw hr1
        go_simp
        (try with_reducible rfl)
      (try simp only [Act.put, List.setIfInBounds_toArray, List.set_cons_zero, List.set_cons_succ])
      refine wpAnyH_take (i := 7) (oi := ?ooy4) (v := ?vvy4) ?hiy4 (by kernel_rfl) (by kernel_rfl) (by kernel_rfl) ?hqy4 (Or.inl ⟨?hgy4, ?hyy4⟩) (by assumption) ?resty4
      case hiy4 => simp only [List.getElem?_toArray, List.getElem?_cons_zero, List.getElem?_cons_succ]; rfl
      case hqy4 => exact fun _ _ _ h => h
      case hgy4 => rfl
      case hyy4 =>
        intro wq hSw
        replace hx0 := keep_cell hSw hx0
        replace hx1 := keep_cell hSw hx1
        replace hr0 := keep_cell hSw hr0
        replace hr1 := keep_cell hSw hr1
        go_simp
        (try with_reducible rfl)
      (try simp only [Act.put, List.setIfInBounds_toArray, List.set_cons_zero, List.set_cons_succ])
      refine wpAnyH_take (i := 8) (oi := ?ooy5) (v := ?vvy5) ?hiy5 (by kernel_rfl) (by kernel_rfl) (by kernel_rfl) ?hqy5 (Or.inl ⟨?hgy5, ?hyy5⟩) (by assumption) ?resty5
      case hiy5 => simp only [List.getElem?_toArray, List.getElem?_cons_zero, List.getElem?_cons_succ]; rfl
      case hqy5 => exact fun _ _ _ h => h
      case hgy5 => rfl
      case hyy5 =>
        intro wq hSw
        replace hx0 := keep_cell hSw hx0
        replace hx1 := keep_cell hSw hx1
        replace hr0 := keep_cell hSw hr0
        replace hr1 := keep_cell hSw hr1
        go_simp
        (try with_reducible rfl)
      (try simp only [Act.put, List.setIfInBounds_toArray, List.set_cons_zero, List.set_cons_succ])
      refine wpAnyH_take (i := 9) (oi := ?ooy6) (v := ?vvy6) ?hiy6 (by kernel_rfl) (by kernel_rfl) (by kernel_rfl) ?hqy6 (Or.inl ⟨?hgy6, ?hyy6⟩) (by assumption) ?resty6
      case hiy6 => simp only [List.getElem?_toArray, List.getElem?_cons_zero, List.getElem?_cons_succ]; rfl
      case hqy6 => exact fun _ _ _ h => h
      case hgy6 => rfl
      case hyy6 =>
        intro wq hSw
        replace hx0 := keep_cell hSw hx0
        replace hx1 := keep_cell hSw hx1
        replace hr0 := keep_cell hSw hr0
        replace hr1 := keep_cell hSw hr1
        go_simp
        (try with_reducible rfl)
      (try simp only [Act.put, List.setIfInBounds_toArray, List.set_cons_zero, List.set_cons_succ])
      refine wpAnyH_take (i := 14) (oi := ?ooy7) (v := ?vvy7) ?hiy7 (by kernel_rfl) (by kernel_rfl) (by kernel_rfl) ?hqy7 (Or.inl ⟨?hgy7, ?hyy7⟩) (by assumption) ?resty7
      case hiy7 => simp only [List.getElem?_toArray, List.getElem?_cons_zero, List.getElem?_cons_succ]; rfl
      case hqy7 => exact fun _ _ _ h => h
      case hgy7 => rfl
      case hyy7 =>
        intro wq hSw
        replace hx0 := keep_cell hSw hx0
        replace hx1 := keep_cell hSw hx1
        replace hr0 := keep_cell hSw hr0
        replace hr1 := keep_cell hSw hr1
        go_simp
        (try with_reducible rfl)
      (try simp only [Act.put, List.setIfInBounds_toArray, List.set_cons_zero, List.set_cons_succ])
      refine wpAnyH_take (i := 15) (oi := ?ooy8) (v := ?vvy8) ?hiy8 (by kernel_rfl) (by kernel_rfl) (by kernel_rfl) ?hqy8 (Or.inl ⟨?hgy8, ?hyy8⟩) (by assumption) ?resty8
      case hiy8 => simp only [List.getElem?_toArray, List.getElem?_cons_zero, List.getElem?_cons_succ]; rfl
      case hqy8 => exact fun _ _ _ h => h
      case hgy8 => rfl
      case hyy8 =>
        intro wq hSw
        replace hx0 := keep_cell hSw hx0
        replace hx1 := keep_cell hSw hx1
        replace hr0 := keep_cell hSw hr0
        replace hr1 := keep_cell hSw hr1
        go_simp
        (try with_reducible rfl)
      (try simp only [Act.put, List.setIfInBounds_toArray, List.set_cons_zero, List.set_cons_succ])
      refine wpAnyH_take (i := 16) (oi := ?ooy9) (v := ?vvy9) ?hiy9 (by kernel_rfl) (by kernel_rfl) (by kernel_rfl) ?hqy9 (Or.inl ⟨?hgy9, ?hyy9⟩) (by assumption) ?resty9
      case hiy9 => simp only [List.getElem?_toArray, List.getElem?_cons_zero, List.getElem?_cons_succ]; rfl
      case hqy9 => exact fun _ _ _ h => h
      case hgy9 => rfl
      case hyy9 =>
        intro wq hSw
        replace hx0 := keep_cell hSw hx0
        replace hx1 := keep_cell hSw hx1
        replace hr0 := keep_cell hSw hr0
        replace hr1 := keep_cell hSw hr1
        go_simp
        (try with_reducible rfl)
      (try simp only [Act.put, List.setIfInBounds_toArray, List.set_cons_zero, List.set_cons_succ])
      refine wpAnyH_ready (rs := [3]) (by kernel_rfl) (by simp) ?_
      refine AllReadyH.cons (i := 3) (o := ?ooy10) ?hoy10 (fun K hK => ?hstepy10) AllReadyH.nil
      case hoy10 => simp only [List.getElem?_toArray, List.getElem?_cons_zero, List.getElem?_cons_succ]; rfl
      go_simp
      refine (HSO.out _ _ _ (h.below hw) (k.below hw) hpr).mono ?_
      rintro e1 wz ⟨Af, cf, rfl, hof, hb⟩
      have hif := hof.ints
      clear hof
      clear hpr
      go_wp2_with fail
      refine hK.out _ _ (keep_below hb hHeld) (fun _ => ?_)
      clear hK K
      (try simp only [Act.put, List.setIfInBounds_toArray, List.set_cons_zero, List.set_cons_succ])
      refine wpAnyH_mono (S' := fun w' => Below wz.heap.size wz w') (fun _ h => keep_below h (keep_below hb hHeld)) _ _ _ _ ?_
      replace hw := keep_below hb hw
      replace hf0 := keep_froz2 hb hr0 hf0
      replace hf1 := keep_froz2 hb hr1 hf1
      replace hx0 := keep_cell hb hx0
      replace hx1 := keep_cell hb hx1
      replace hr0 := keep_cell hb hr0
      replace hr1 := keep_cell hb hr1
      clear hHeld hb
      have hHeld : Below wz.heap.size wz wz := (Below.refl _ _)
      refine wpAnyH_ready (rs := [4]) (by kernel_rfl) (by simp) ?_
      refine AllReadyH.cons (i := 4) (o := ?ooy11) ?hoy11 (fun K hK => ?hstepy11) AllReadyH.nil
      case hoy11 => simp only [List.getElem?_toArray, List.getElem?_cons_zero, List.getElem?_cons_succ]; rfl
      go_simp
      have hrz := World.block_lt_of_cell? _ _ hr0
      simp only at hrz
      refine (HTO.out _ _ _ (h.below hw) hif).mono ?_
      rintro e1 wz ⟨A1, c1, rfl, hos, hb⟩
      obtain ⟨g1, rfl, hgs, hrs⟩ := hos.pos HLO.out
      have hT1 := hrs.cell (j := 0) HLO.out
      have hl1 : 0 < TO.length := HLO.out
      have hgr1 : w.heap.size + 1 < g1 := Nat.lt_of_lt_of_le hrz hgs
      clear hrs hos hgs hrz
      clear hif
      go_wp2_with fail
      refine hK.out _ _ (keep_below hb hHeld) (fun _ => ?_)
      clear hK K
      (try simp only [Act.put, List.setIfInBounds_toArray, List.set_cons_zero, List.set_cons_succ])
      refine wpAnyH_mono (S' := fun w' => Below wz.heap.size wz w') (fun _ h => keep_below h (keep_below hb hHeld)) _ _ _ _ ?_
      replace hw := keep_below hb hw
      replace hf0 := keep_froz2 hb hr0 hf0
      replace hf1 := keep_froz2 hb hr1 hf1
      replace hx0 := keep_cell hb hx0
      replace hx1 := keep_cell hb hx1
      replace hr0 := keep_cell hb hr0
      replace hr1 := keep_cell hb hr1
      clear hHeld hb
      have hHeld : Below wz.heap.size wz wz := (Below.refl _ _)
      refine wpAnyH_take (i := 5) (oi := ?ooy12) (v := ?vvy12) ?hiy12 (by kernel_rfl) (by kernel_rfl) (by kernel_rfl) ?hqy12 (Or.inl ⟨?hgy12, ?hyy12⟩) (by assumption) ?resty12
      case hiy12 => simp only [List.getElem?_toArray, List.getElem?_cons_zero, List.getElem?_cons_succ]; rfl
      case hqy12 => exact fun _ _ _ h => h
      case hgy12 => rfl
      case hyy12 =>
        intro wq hSw
        replace hx0 := keep_cell hSw hx0
        replace hx1 := keep_cell hSw hx1
        replace hr0 := keep_cell hSw hr0
        replace hr1 := keep_cell hSw hr1
        replace hT1 := keep_cell hSw hT1
        go_simp
        (try with_reducible rfl)
      (try simp only [Act.put, List.setIfInBounds_toArray, List.set_cons_zero, List.set_cons_succ])
      refine wpAnyH_take (i := 6) (oi := ?ooy13) (v := ?vvy13) ?hiy13 (by kernel_rfl) (by kernel_rfl) (by kernel_rfl) ?hqy13 (Or.inl ⟨?hgy13, ?hyy13⟩) (by assumption) ?resty13
      case hiy13 => simp only [List.getElem?_toArray, List.getElem?_cons_zero, List.getElem?_cons_succ]; rfl
      case hqy13 => exact fun _ _ _ h => h
      case hgy13 => rfl
      case hyy13 =>
        intro wq hSw
        replace hx0 := keep_cell hSw hx0
        replace hx1 := keep_cell hSw hx1
        replace hr0 := keep_cell hSw hr0
        replace hr1 := keep_cell hSw hr1
        replace hT1 := keep_cell hSw hT1
        go_simp
        (try with_reducible rfl)
      (try simp only [Act.put, List.setIfInBounds_toArray, List.set_cons_zero, List.set_cons_succ])
      refine wpAnyH_ready (rs := [10]) (by kernel_rfl) (by simp) ?_
      refine AllReadyH.cons (i := 10) (o := ?ooy14) ?hoy14 (fun K hK => ?hstepy14) AllReadyH.nil
      case hoy14 => simp only [List.getElem?_toArray, List.getElem?_cons_zero, List.getElem?_cons_succ]; rfl
      go_simp
      refine (HSP.out _ (h.below hw) (k.below hw) (zp.below hw)).mono ?_
      rintro e1 wz ⟨Af, cf, rfl, hof, hb⟩
      have hif := hof.ints
      clear hof
      go_wp2_with fail
      refine hK.out _ _ (keep_below hb hHeld) (fun _ => ?_)
      clear hK K
      (try simp only [Act.put, List.setIfInBounds_toArray, List.set_cons_zero, List.set_cons_succ])
      refine wpAnyH_mono (S' := fun w' => Below wz.heap.size wz w') (fun _ h => keep_below h (keep_below hb hHeld)) _ _ _ _ ?_
      replace hw := keep_below hb hw
      replace hf0 := keep_froz2 hb hr0 hf0
      replace hf1 := keep_froz2 hb hr1 hf1
      replace hx0 := keep_cell hb hx0
      replace hx1 := keep_cell hb hx1
      replace hr0 := keep_cell hb hr0
      replace hr1 := keep_cell hb hr1
      replace hT1 := keep_cell hb hT1
      clear hHeld hb
      have hHeld : Below wz.heap.size wz wz := (Below.refl _ _)
      refine wpAnyH_ready (rs := [11]) (by kernel_rfl) (by simp) ?_
      refine AllReadyH.cons (i := 11) (o := ?ooy15) ?hoy15 (fun K hK => ?hstepy15) AllReadyH.nil
      case hoy15 => simp only [List.getElem?_toArray, List.getElem?_cons_zero, List.getElem?_cons_succ]; rfl
      go_simp
      have hrz := World.block_lt_of_cell? _ _ hr0
      simp only at hrz
      refine (HTP.out _ _ _ (h.below hw) hif).mono ?_
      rintro e1 wz ⟨A1, c1, rfl, hos, hb⟩
      obtain ⟨g2, rfl, hgs, hrs⟩ := hos.pos HLP.out
      have hT2 := hrs.cell (j := 0) HLP.out
      have hl2 : 0 < TP.length := HLP.out
      have hgr2 : w.heap.size + 1 < g2 := Nat.lt_of_lt_of_le hrz hgs
      clear hrs hos hgs hrz
      clear hif
      go_wp2_with fail
      refine hK.out _ _ (keep_below hb hHeld) (fun _ => ?_)
      clear hK K
      (try simp only [Act.put, List.setIfInBounds_toArray, List.set_cons_zero, List.set_cons_succ])
      refine wpAnyH_mono (S' := fun w' => Below wz.heap.size wz w') (fun _ h => keep_below h (keep_below hb hHeld)) _ _ _ _ ?_
      replace hw := keep_below hb hw
      replace hf0 := keep_froz2 hb hr0 hf0
      replace hf1 := keep_froz2 hb hr1 hf1
      replace hx0 := keep_cell hb hx0
      replace hx1 := keep_cell hb hx1
      replace hr0 := keep_cell hb hr0
      replace hr1 := keep_cell hb hr1
      replace hT1 := keep_cell hb hT1
      clear hHeld hb
      have hHeld : Below wz.heap.size wz wz := (Below.refl _ _)
      refine wpAnyH_take (i := 12) (oi := ?ooy16) (v := ?vvy16) ?hiy16 (by kernel_rfl) (by kernel_rfl) (by kernel_rfl) ?hqy16 (Or.inl ⟨?hgy16, ?hyy16⟩) (by assumption) ?resty16
      case hiy16 => simp only [List.getElem?_toArray, List.getElem?_cons_zero, List.getElem?_cons_succ]; rfl
      case hqy16 => exact fun _ _ _ h => h
      case hgy16 => rfl
      case hyy16 =>
        intro wq hSw
        replace hx0 := keep_cell hSw hx0
        replace hx1 := keep_cell hSw hx1
        replace hr0 := keep_cell hSw hr0
        replace hr1 := keep_cell hSw hr1
        replace hT1 := keep_cell hSw hT1
        replace hT2 := keep_cell hSw hT2
        go_simp
        (try with_reducible rfl)
      (try simp only [Act.put, List.setIfInBounds_toArray, List.set_cons_zero, List.set_cons_succ])
      refine wpAnyH_take (i := 13) (oi := ?ooy17) (v := ?vvy17) ?hiy17 (by kernel_rfl) (by kernel_rfl) (by kernel_rfl) ?hqy17 (Or.inl ⟨?hgy17, ?hyy17⟩) (by assumption) ?resty17
      case hiy17 => simp only [List.getElem?_toArray, List.getElem?_cons_zero, List.getElem?_cons_succ]; rfl
      case hqy17 => exact fun _ _ _ h => h
      case hgy17 => rfl
      case hyy17 =>
        intro wq hSw
        replace hx0 := keep_cell hSw hx0
        replace hx1 := keep_cell hSw hx1
        replace hr0 := keep_cell hSw hr0
        replace hr1 := keep_cell hSw hr1
        replace hT1 := keep_cell hSw hT1
        replace hT2 := keep_cell hSw hT2
        go_simp
        (try with_reducible rfl)
      (try simp only [Act.put, List.setIfInBounds_toArray, List.set_cons_zero, List.set_cons_succ])
      refine wpAnyH_ready (rs := [17]) (by kernel_rfl) (by simp) ?_
      refine AllReadyH.cons (i := 17) (o := ?ooy18) ?hoy18 (fun K hK => ?hstepy18) AllReadyH.nil
      case hoy18 => simp only [List.getElem?_toArray, List.getElem?_cons_zero, List.getElem?_cons_succ]; rfl
      go_simp
      refine (HSQ.out _ (h.below hw) (k.below hw) (zq.below hw)).mono ?_
      rintro e1 wz ⟨Af, cf, rfl, hof, hb⟩
      have hif := hof.ints
      clear hof
      go_wp2_with fail
      refine hK.out _ _ (keep_below hb hHeld) (fun _ => ?_)
      clear hK K
      (try simp only [Act.put, List.setIfInBounds_toArray, List.set_cons_zero, List.set_cons_succ])
      refine wpAnyH_mono (S' := fun w' => Below wz.heap.size wz w') (fun _ h => keep_below h (keep_below hb hHeld)) _ _ _ _ ?_
      replace hw := keep_below hb hw
      replace hf0 := keep_froz2 hb hr0 hf0
      replace hf1 := keep_froz2 hb hr1 hf1
      replace hx0 := keep_cell hb hx0
      replace hx1 := keep_cell hb hx1
      replace hr0 := keep_cell hb hr0
      replace hr1 := keep_cell hb hr1
      replace hT1 := keep_cell hb hT1
      replace hT2 := keep_cell hb hT2
      clear hHeld hb
      have hHeld : Below wz.heap.size wz wz := (Below.refl _ _)
      refine wpAnyH_ready (rs := [18]) (by kernel_rfl) (by simp) ?_
      refine AllReadyH.cons (i := 18) (o := ?ooy19) ?hoy19 (fun K hK => ?hstepy19) AllReadyH.nil
      case hoy19 => simp only [List.getElem?_toArray, List.getElem?_cons_zero, List.getElem?_cons_succ]; rfl
      go_simp
      have hrz := World.block_lt_of_cell? _ _ hr0
      simp only at hrz
      refine (HTQ.out _ _ _ (h.below hw) hif).mono ?_
      rintro e1 wz ⟨A1, c1, rfl, hos, hb⟩
      obtain ⟨g3, rfl, hgs, hrs⟩ := hos.pos HLQ.out
      have hT3 := hrs.cell (j := 0) HLQ.out
      have hl3 : 0 < TQ.length := HLQ.out
      have hgr3 : w.heap.size + 1 < g3 := Nat.lt_of_lt_of_le hrz hgs
      clear hrs hos hgs hrz
      clear hif
      go_wp2_with fail
      refine hK.out _ _ (keep_below hb hHeld) (fun _ => ?_)
      clear hK K
      (try simp only [Act.put, List.setIfInBounds_toArray, List.set_cons_zero, List.set_cons_succ])
      refine wpAnyH_mono (S' := fun w' => Below wz.heap.size wz w') (fun _ h => keep_below h (keep_below hb hHeld)) _ _ _ _ ?_
      replace hw := keep_below hb hw
      replace hf0 := keep_froz2 hb hr0 hf0
      replace hf1 := keep_froz2 hb hr1 hf1
      replace hx0 := keep_cell hb hx0
      replace hx1 := keep_cell hb hx1
      replace hr0 := keep_cell hb hr0
      replace hr1 := keep_cell hb hr1
      replace hT1 := keep_cell hb hT1
      replace hT2 := keep_cell hb hT2
      clear hHeld hb
      have hHeld : Below wz.heap.size wz wz := (Below.refl _ _)
      refine wpAnyH_take (i := 19) (oi := ?ooy20) (v := ?vvy20) ?hiy20 (by kernel_rfl) (by kernel_rfl) (by kernel_rfl) ?hqy20 (Or.inl ⟨?hgy20, ?hyy20⟩) (by assumption) ?resty20
      case hiy20 => simp only [List.getElem?_toArray, List.getElem?_cons_zero, List.getElem?_cons_succ]; rfl
      case hqy20 => exact fun _ _ _ h => h
      case hgy20 => rfl
      case hyy20 =>
        intro wq hSw
        replace hx0 := keep_cell hSw hx0
        replace hx1 := keep_cell hSw hx1
        replace hr0 := keep_cell hSw hr0
        replace hr1 := keep_cell hSw hr1
        replace hT1 := keep_cell hSw hT1
        replace hT2 := keep_cell hSw hT2
        replace hT3 := keep_cell hSw hT3
        go_simp
        (try with_reducible rfl)
      (try simp only [Act.put, List.setIfInBounds_toArray, List.set_cons_zero, List.set_cons_succ])
      refine wpAnyH_take (i := 20) (oi := ?ooy21) (v := ?vvy21) ?hiy21 (by kernel_rfl) (by kernel_rfl) (by kernel_rfl) ?hqy21 (Or.inl ⟨?hgy21, ?hyy21⟩) (by assumption) ?resty21
      case hiy21 => simp only [List.getElem?_toArray, List.getElem?_cons_zero, List.getElem?_cons_succ]; rfl
      case hqy21 => exact fun _ _ _ h => h
      case hgy21 => rfl
      case hyy21 =>
        intro wq hSw
        replace hx0 := keep_cell hSw hx0
        replace hx1 := keep_cell hSw hx1
        replace hr0 := keep_cell hSw hr0
        replace hr1 := keep_cell hSw hr1
        replace hT1 := keep_cell hSw hT1
        replace hT2 := keep_cell hSw hT2
        replace hT3 := keep_cell hSw hT3
        go_simp
        (try with_reducible rfl)
      (try simp only [Act.put, List.setIfInBounds_toArray, List.set_cons_zero, List.set_cons_succ])
      refine wpAnyH_take (i := 21) (oi := ?ooy22) (v := ?vvy22) ?hiy22 (by kernel_rfl) (by kernel_rfl) (by kernel_rfl) ?hqy22 (Or.inl ⟨?hgy22, ?hyy22⟩) (by assumption) ?resty22
      case hiy22 => simp only [List.getElem?_toArray, List.getElem?_cons_zero, List.getElem?_cons_succ]; rfl
      case hqy22 => exact fun _ _ _ h => h
      case hgy22 => rfl
      case hyy22 =>
        intro wq hSw
        replace hx0 := keep_cell hSw hx0
        replace hx1 := keep_cell hSw hx1
        replace hr0 := keep_cell hSw hr0
        replace hr1 := keep_cell hSw hr1
        replace hT1 := keep_cell hSw hT1
        replace hT2 := keep_cell hSw hT2
        replace hT3 := keep_cell hSw hT3
        go_simp
        (try with_reducible rfl)
      (try simp only [Act.put, List.setIfInBounds_toArray, List.set_cons_zero, List.set_cons_succ])
      refine wpAnyH_take (i := 22) (oi := ?ooy23) (v := ?vvy23) ?hiy23 (by kernel_rfl) (by kernel_rfl) (by kernel_rfl) ?hqy23 (Or.inl ⟨?hgy23, ?hyy23⟩) (by assumption) ?resty23
      case hiy23 => simp only [List.getElem?_toArray, List.getElem?_cons_zero, List.getElem?_cons_succ]; rfl
      case hqy23 => exact fun _ _ _ h => h
      case hgy23 => rfl
      case hyy23 =>
        intro wq hSw
        replace hx0 := keep_cell hSw hx0
        replace hx1 := keep_cell hSw hx1
        replace hr0 := keep_cell hSw hr0
        replace hr1 := keep_cell hSw hr1
        replace hT1 := keep_cell hSw hT1
        replace hT2 := keep_cell hSw hT2
        replace hT3 := keep_cell hSw hT3
        go_simp
        (try with_reducible rfl)
      (try simp only [Act.put, List.setIfInBounds_toArray, List.set_cons_zero, List.set_cons_succ])
      refine wpAnyH_take (i := 23) (oi := ?ooy24) (v := ?vvy24) ?hiy24 (by kernel_rfl) (by kernel_rfl) (by kernel_rfl) ?hqy24 (Or.inl ⟨?hgy24, ?hyy24⟩) (by assumption) ?resty24
      case hiy24 => simp only [List.getElem?_toArray, List.getElem?_cons_zero, List.getElem?_cons_succ]; rfl
      case hqy24 => exact fun _ _ _ h => h
      case hgy24 => rfl
      case hyy24 =>
        intro wq hSw
        replace hx0 := keep_cell hSw hx0
        replace hx1 := keep_cell hSw hx1
        replace hr0 := keep_cell hSw hr0
        replace hr1 := keep_cell hSw hr1
        replace hT1 := keep_cell hSw hT1
        replace hT2 := keep_cell hSw hT2
        replace hT3 := keep_cell hSw hT3
        go_simp
        (try with_reducible rfl)
      (try simp only [Act.put, List.setIfInBounds_toArray, List.set_cons_zero, List.set_cons_succ])
      clear hHeld
      refine wpAnyH_done (by kernel_rfl) ?_ _
      go_wp2_with fail
      refine (HC.out _).mono ?_
      rintro e1 wz ⟨rfl, hb⟩
      replace hf0 := keep_froz2 hb hr0 hf0
      replace hf1 := keep_froz2 hb hr1 hf1
      replace hr0 := keep_cell hb hr0
      replace hr1 := keep_cell hb hr1
      replace hw := keep_below hb hw
      go_wp2
      refine bodyPost_ret (v := .tuple #[.agg #[.int .i64 N, .int .i64 M], .bool O]) (by simp (maxDischargeDepth := 9) [results, Try.results133, go_sem, *]) rfl ⟨rfl, ?_⟩
      (repeat (first | with_reducible exact Below.refl _ _ | with_reducible assumption | with_reducible refine Below.alloc' ?_ ?_ _ | with_reducible refine Below.setCell' ?_ ?_ _ | with_reducible refine Below.drewN' ?_ _ | with_reducible refine Below.drew ?_ | with_reducible refine Below.transA ?_ (by assumption) ?_ | omega | (focus (simp; done)) | (focus (simp; omega))))
end Go.Proofs.Ytombfbmcplefgaa
/- Contracts: CovarianceOf of the program, VarianceOf. -/
namespace Go.Proofs.Ytombfbmcplefgaa
open Go.ChangeShapes Go.WideShapes Go.ChangeAt Go.RowKit

set_option maxHeartbeats 1000000 in
set_option maxRecDepth 100000 in
theorem implCovarianceOf_any (A B : Option Addr) (c e : Nat) (xs ys : List Int) (P : Option Addr) (cp : Nat) (ps : List Int) (Q : Option Addr) (cq : Nat) (qs : List Int) (w : World) (h : IntS w A xs) (k : IntS w B ys) (zp : IntS w P ps) (zq : IntS w Q qs) (_hx : Bd xs) (_hy : Bd ys) (_bp : Bd ps) (_bq : Bd qs) (hn : xs.length ≤ 1048576) (hm : ys.length ≤ 1048576) (lp : ps.length ≤ 1048576) (lq : qs.length ≤ 1048576) :
    Calls Try.prog 66 #[.agg #[.slice A xs.length c, .slice B ys.length e], .slice P ps.length cp, .slice Q qs.length cq] w (RetAB w (covN xs ys ps qs) (covM xs ys ps qs) (covR xs ys ps qs)) := by
  obtain ⟨r1, q1⟩ : ∃ r, (good xs ys) = r := ⟨_, rfl⟩
  cases r1
  case false =>
    have hO : covOk xs ys ps qs = false := by unfold covOk ; simp [q1]
    have hV_covN := covN_no hO
    have hV_covM := covM_no hO
    have hV_covR := covR_no hO
    rw [hV_covN]
    rw [hV_covM]
    rw [hV_covR]
    (try rw [hO])
    clear hO hV_covN hV_covM hV_covR
    have HG1 := Lib.hid (fun W (h : IntS W A xs) (k : IntS W B ys) => isTree_any A B c e xs ys W h k _hx _hy hn hm)
    rw [q1] at HG1
    clear q1 _hx _hy _bp _bq
    go_enter Try.func66, Try.ntmps66
    go_wp2_with fail
    refine (HG1.out _ ((h.alloc _).alloc _) ((k.alloc _).alloc _)).mono ?_
    rintro e1 w1 ⟨rfl, hb⟩
    have hx0 : w1.cell? ⟨w.heap.size, 0, none⟩ = some (.slice A xs.length c) := keep_cell hb (by simp)
    have hx1 : w1.cell? ⟨w.heap.size, 1, none⟩ = some (.slice B ys.length e) := keep_cell hb (by simp)
    have hr0 : w1.cell? ⟨w.heap.size + 1, 0, none⟩ = some (.int .i64 0) := keep_cell hb (by simp)
    have hr1 : w1.cell? ⟨w.heap.size + 1, 1, none⟩ = some (.int .i64 0) := keep_cell hb (by simp)
    have hf0 : w1.frozen? ⟨w.heap.size + 1, 0, none⟩ = false := keep_froz hb (by simp) (by simp)
    have hf1 : w1.frozen? ⟨w.heap.size + 1, 1, none⟩ = false := keep_froz hb (by simp) (by simp)
    have hw : Below w.heap.size w w1 := below_alloc (below_alloc (hb))
    clear hb
    go_wp2
    refine bodyPost_ret (v := .tuple #[.agg #[.int .i64 0, .int .i64 0], .bool false]) (by simp (maxDischargeDepth := 9) [results, Try.results66, go_sem, *]) rfl ⟨rfl, ?_⟩
    (repeat (first | with_reducible exact Below.refl _ _ | with_reducible assumption | with_reducible refine Below.alloc' ?_ ?_ _ | with_reducible refine Below.setCell' ?_ ?_ _ | with_reducible refine Below.drewN' ?_ _ | with_reducible refine Below.drew ?_ | with_reducible refine Below.transA ?_ (by assumption) ?_ | omega | (focus (simp; done)) | (focus (simp; omega))))
  case true =>
    obtain ⟨r2, q2⟩ : ∃ r, (payB xs ps) = r := ⟨_, rfl⟩
    cases r2
    case false =>
      have hO : covOk xs ys ps qs = false := by unfold covOk ; simp [q1, q2]
      have hV_covN := covN_no hO
      have hV_covM := covM_no hO
      have hV_covR := covR_no hO
      rw [hV_covN]
      rw [hV_covM]
      rw [hV_covR]
      (try rw [hO])
      clear hO hV_covN hV_covM hV_covR
      have HG1 := Lib.hid (fun W (h : IntS W A xs) (k : IntS W B ys) => isTree_any A B c e xs ys W h k _hx _hy hn hm)
      rw [q1] at HG1
      have HG2 := Lib.hid (fun W (h : IntS W A xs) (zp : IntS W P ps) => arePays_good q1 A B P c ys.length e cp ps W h zp lp)
      rw [q2] at HG2
      clear q1 q2 _hx _hy _bp _bq
      go_enter Try.func66, Try.ntmps66
      go_wp2_with fail
      refine (HG1.out _ ((h.alloc _).alloc _) ((k.alloc _).alloc _)).mono ?_
      rintro e1 w1 ⟨rfl, hb⟩
      have hx0 : w1.cell? ⟨w.heap.size, 0, none⟩ = some (.slice A xs.length c) := keep_cell hb (by simp)
      have hx1 : w1.cell? ⟨w.heap.size, 1, none⟩ = some (.slice B ys.length e) := keep_cell hb (by simp)
      have hr0 : w1.cell? ⟨w.heap.size + 1, 0, none⟩ = some (.int .i64 0) := keep_cell hb (by simp)
      have hr1 : w1.cell? ⟨w.heap.size + 1, 1, none⟩ = some (.int .i64 0) := keep_cell hb (by simp)
      have hf0 : w1.frozen? ⟨w.heap.size + 1, 0, none⟩ = false := keep_froz hb (by simp) (by simp)
      have hf1 : w1.frozen? ⟨w.heap.size + 1, 1, none⟩ = false := keep_froz hb (by simp) (by simp)
      have hw : Below w.heap.size w w1 := below_alloc (below_alloc (hb))
      clear hb
      go_wp2_with fail
      refine (HG2.out _ (h.below hw) (zp.below hw)).mono ?_
      rintro e1 w2 ⟨rfl, hb⟩
      replace hx0 := keep_cell hb hx0
      replace hx1 := keep_cell hb hx1
      replace hf0 := keep_froz hb (by rw [hr0]; rfl) hf0
      replace hf1 := keep_froz hb (by rw [hr1]; rfl) hf1
      replace hr0 := keep_cell hb hr0
      replace hr1 := keep_cell hb hr1
      replace hw := keep_below hb hw
      clear hb
      go_wp2
      refine bodyPost_ret (v := .tuple #[.agg #[.int .i64 0, .int .i64 0], .bool false]) (by simp (maxDischargeDepth := 9) [results, Try.results66, go_sem, *]) rfl ⟨rfl, ?_⟩
      (repeat (first | with_reducible exact Below.refl _ _ | with_reducible assumption | with_reducible refine Below.alloc' ?_ ?_ _ | with_reducible refine Below.setCell' ?_ ?_ _ | with_reducible refine Below.drewN' ?_ _ | with_reducible refine Below.drew ?_ | with_reducible refine Below.transA ?_ (by assumption) ?_ | omega | (focus (simp; done)) | (focus (simp; omega))))
    case true =>
      obtain ⟨r3, q3⟩ : ∃ r, (payB xs qs) = r := ⟨_, rfl⟩
      cases r3
      case false =>
        have hO : covOk xs ys ps qs = false := by unfold covOk ; simp [q1, q2, q3]
        have hV_covN := covN_no hO
        have hV_covM := covM_no hO
        have hV_covR := covR_no hO
        rw [hV_covN]
        rw [hV_covM]
        rw [hV_covR]
        (try rw [hO])
        clear hO hV_covN hV_covM hV_covR
        have HG1 := Lib.hid (fun W (h : IntS W A xs) (k : IntS W B ys) => isTree_any A B c e xs ys W h k _hx _hy hn hm)
        rw [q1] at HG1
        have HG2 := Lib.hid (fun W (h : IntS W A xs) (zp : IntS W P ps) => arePays_good q1 A B P c ys.length e cp ps W h zp lp)
        rw [q2] at HG2
        have HG3 := Lib.hid (fun W (h : IntS W A xs) (zq : IntS W Q qs) => arePays_good q1 A B Q c ys.length e cq qs W h zq lq)
        rw [q3] at HG3
        clear q1 q2 q3 _hx _hy _bp _bq
        go_enter Try.func66, Try.ntmps66
        go_wp2_with fail
        refine (HG1.out _ ((h.alloc _).alloc _) ((k.alloc _).alloc _)).mono ?_
        rintro e1 w1 ⟨rfl, hb⟩
        have hx0 : w1.cell? ⟨w.heap.size, 0, none⟩ = some (.slice A xs.length c) := keep_cell hb (by simp)
        have hx1 : w1.cell? ⟨w.heap.size, 1, none⟩ = some (.slice B ys.length e) := keep_cell hb (by simp)
        have hr0 : w1.cell? ⟨w.heap.size + 1, 0, none⟩ = some (.int .i64 0) := keep_cell hb (by simp)
        have hr1 : w1.cell? ⟨w.heap.size + 1, 1, none⟩ = some (.int .i64 0) := keep_cell hb (by simp)
        have hf0 : w1.frozen? ⟨w.heap.size + 1, 0, none⟩ = false := keep_froz hb (by simp) (by simp)
        have hf1 : w1.frozen? ⟨w.heap.size + 1, 1, none⟩ = false := keep_froz hb (by simp) (by simp)
        have hw : Below w.heap.size w w1 := below_alloc (below_alloc (hb))
        clear hb
        go_wp2_with fail
        refine (HG2.out _ (h.below hw) (zp.below hw)).mono ?_
        rintro e1 w2 ⟨rfl, hb⟩
        replace hx0 := keep_cell hb hx0
        replace hx1 := keep_cell hb hx1
        replace hf0 := keep_froz hb (by rw [hr0]; rfl) hf0
        replace hf1 := keep_froz hb (by rw [hr1]; rfl) hf1
        replace hr0 := keep_cell hb hr0
        replace hr1 := keep_cell hb hr1
        replace hw := keep_below hb hw
        clear hb
        go_wp2_with fail
        refine (HG3.out _ (h.below hw) (zq.below hw)).mono ?_
        rintro e1 w3 ⟨rfl, hb⟩
        replace hx0 := keep_cell hb hx0
        replace hx1 := keep_cell hb hx1
        replace hf0 := keep_froz hb (by rw [hr0]; rfl) hf0
        replace hf1 := keep_froz hb (by rw [hr1]; rfl) hf1
        replace hr0 := keep_cell hb hr0
        replace hr1 := keep_cell hb hr1
        replace hw := keep_below hb hw
        clear hb
        go_wp2
        refine bodyPost_ret (v := .tuple #[.agg #[.int .i64 0, .int .i64 0], .bool false]) (by simp (maxDischargeDepth := 9) [results, Try.results66, go_sem, *]) rfl ⟨rfl, ?_⟩
        (repeat (first | with_reducible exact Below.refl _ _ | with_reducible assumption | with_reducible refine Below.alloc' ?_ ?_ _ | with_reducible refine Below.setCell' ?_ ?_ _ | with_reducible refine Below.drewN' ?_ _ | with_reducible refine Below.drew ?_ | with_reducible refine Below.transA ?_ (by assumption) ?_ | omega | (focus (simp; done)) | (focus (simp; omega))))
      case true =>
        have hO : covOk xs ys ps qs = true := by unfold covOk ; simp [q1, q2, q3]
        have hV_covN := covN_yes hO
        have hV_covM := covM_yes hO
        have hV_covR := covR_yes hO
        rw [hV_covN]
        rw [hV_covM]
        rw [hV_covR]
        (try rw [hO])
        clear hO hV_covN hV_covM hV_covR
        have HG1 := Lib.hid (fun W (h : IntS W A xs) (k : IntS W B ys) => isTree_any A B c e xs ys W h k _hx _hy hn hm)
        rw [q1] at HG1
        have HG2 := Lib.hid (fun W (h : IntS W A xs) (zp : IntS W P ps) => arePays_good q1 A B P c ys.length e cp ps W h zp lp)
        rw [q2] at HG2
        have HG3 := Lib.hid (fun W (h : IntS W A xs) (zq : IntS W Q qs) => arePays_good q1 A B Q c ys.length e cq qs W h zq lq)
        rw [q3] at HG3
        have HC := Lib.hid (fun W (h : IntS W A xs) (k : IntS W B ys) (zp : IntS W P ps) (zq : IntS W Q qs) => covariance_good A B c e xs ys P cp ps Q cq qs W q1 q2 q3 h k zp zq)
        generalize lowN (covA xs ys ps qs) (covB xs ys) = N at *
        generalize lowM (covA xs ys ps qs) (covB xs ys) = M at *
        generalize lowOk (covA xs ys ps qs) (covB xs ys) = O at *
        clear q1 q2 q3 _hx _hy _bp _bq
        go_enter Try.func66, Try.ntmps66
        go_wp2_with fail
        refine (HG1.out _ ((h.alloc _).alloc _) ((k.alloc _).alloc _)).mono ?_
        rintro e1 w1 ⟨rfl, hb⟩
        have hx0 : w1.cell? ⟨w.heap.size, 0, none⟩ = some (.slice A xs.length c) := keep_cell hb (by simp)
        have hx1 : w1.cell? ⟨w.heap.size, 1, none⟩ = some (.slice B ys.length e) := keep_cell hb (by simp)
        have hr0 : w1.cell? ⟨w.heap.size + 1, 0, none⟩ = some (.int .i64 0) := keep_cell hb (by simp)
        have hr1 : w1.cell? ⟨w.heap.size + 1, 1, none⟩ = some (.int .i64 0) := keep_cell hb (by simp)
        have hf0 : w1.frozen? ⟨w.heap.size + 1, 0, none⟩ = false := keep_froz hb (by simp) (by simp)
        have hf1 : w1.frozen? ⟨w.heap.size + 1, 1, none⟩ = false := keep_froz hb (by simp) (by simp)
        have hw : Below w.heap.size w w1 := below_alloc (below_alloc (hb))
        clear hb
        go_wp2_with fail
        refine (HG2.out _ (h.below hw) (zp.below hw)).mono ?_
        rintro e1 w2 ⟨rfl, hb⟩
        replace hx0 := keep_cell hb hx0
        replace hx1 := keep_cell hb hx1
        replace hf0 := keep_froz hb (by rw [hr0]; rfl) hf0
        replace hf1 := keep_froz hb (by rw [hr1]; rfl) hf1
        replace hr0 := keep_cell hb hr0
        replace hr1 := keep_cell hb hr1
        replace hw := keep_below hb hw
        clear hb
        go_wp2_with fail
        refine (HG3.out _ (h.below hw) (zq.below hw)).mono ?_
        rintro e1 w3 ⟨rfl, hb⟩
        replace hx0 := keep_cell hb hx0
        replace hx1 := keep_cell hb hx1
        replace hf0 := keep_froz hb (by rw [hr0]; rfl) hf0
        replace hf1 := keep_froz hb (by rw [hr1]; rfl) hf1
        replace hr0 := keep_cell hb hr0
        replace hr1 := keep_cell hb hr1
        replace hw := keep_below hb hw
        clear hb
        go_wp2_with fail
        refine (HC.out _ (h.below hw) (k.below hw) (zp.below hw) (zq.below hw)).mono ?_
        rintro e1 wz ⟨rfl, hb⟩
        replace hf0 := keep_froz2 hb hr0 hf0
        replace hf1 := keep_froz2 hb hr1 hf1
        replace hr0 := keep_cell hb hr0
        replace hr1 := keep_cell hb hr1
        replace hw := keep_below hb hw
        go_wp2
        refine bodyPost_ret (v := .tuple #[.agg #[.int .i64 N, .int .i64 M], .bool O]) (by simp (maxDischargeDepth := 9) [results, Try.results66, go_sem, *]) rfl ⟨rfl, ?_⟩
        (repeat (first | with_reducible exact Below.refl _ _ | with_reducible assumption | with_reducible refine Below.alloc' ?_ ?_ _ | with_reducible refine Below.setCell' ?_ ?_ _ | with_reducible refine Below.drewN' ?_ _ | with_reducible refine Below.drew ?_ | with_reducible refine Below.transA ?_ (by assumption) ?_ | omega | (focus (simp; done)) | (focus (simp; omega))))
set_option maxHeartbeats 1000000 in
theorem specVarianceOf_any (A B : Option Addr) (c e : Nat) (xs ys : List Int) (P : Option Addr) (cp : Nat) (ps : List Int) (w : World) (h : IntS w A xs) (k : IntS w B ys) (zp : IntS w P ps) (hx : Bd xs) (hy : Bd ys) (bp : Bd ps) (hn : xs.length ≤ 1048576) (hm : ys.length ≤ 1048576) (lp : ps.length ≤ 1048576) :
    Calls Try.prog 69 #[.agg #[.slice A xs.length c, .slice B ys.length e], .slice P ps.length cp] w (RetAB w (covN xs ys ps ps) (covM xs ys ps ps) (covR xs ys ps ps)) := by
  have HC := Lib.hid (fun W (h : IntS W A xs) (k : IntS W B ys) (zp : IntS W P ps) => specCovarianceOf_any A B c e xs ys P cp ps P cp ps W h k zp zp hx hy bp bp hn hm lp lp)
  generalize covN xs ys ps ps = N at *
  generalize covM xs ys ps ps = M at *
  generalize covR xs ys ps ps = O at *
  clear hx hy bp
  go_enter Try.func69, Try.ntmps69
  go_wp2_with fail
  refine (HC.out _ ((h.alloc _).alloc _) ((k.alloc _).alloc _) ((zp.alloc _).alloc _)).mono ?_
  rintro e1 w1 ⟨rfl, hb1⟩
  (obtain ⟨hc1, hf1, hz1⟩ := bcell hb1; have hy1 := hb1.size; (try simp at hz1); (try simp at hy1); (try simp at hc1); (try simp at hf1))
  go_wp2
  refine bodyPost_ret (v := .tuple #[.agg #[.int .i64 N, .int .i64 M], .bool O]) (by simp (maxDischargeDepth := 9) [results, Try.results69, go_sem, *]) rfl ⟨rfl, ?_⟩
  (repeat (first | with_reducible exact Below.refl _ _ | with_reducible assumption | with_reducible refine Below.alloc' ?_ ?_ _ | with_reducible refine Below.setCell' ?_ ?_ _ | with_reducible refine Below.drewN' ?_ _ | with_reducible refine Below.drew ?_ | with_reducible refine Below.transA ?_ (by assumption) ?_ | omega | (focus (simp; done)) | (focus (simp; omega))))
set_option maxHeartbeats 1000000 in
set_option maxRecDepth 100000 in
theorem implVarianceOf_any (A B : Option Addr) (c e : Nat) (xs ys : List Int) (P : Option Addr) (cp : Nat) (ps : List Int) (w : World) (h : IntS w A xs) (k : IntS w B ys) (zp : IntS w P ps) (_hx : Bd xs) (_hy : Bd ys) (_bp : Bd ps) (hn : xs.length ≤ 1048576) (hm : ys.length ≤ 1048576) (lp : ps.length ≤ 1048576) :
    Calls Try.prog 68 #[.agg #[.slice A xs.length c, .slice B ys.length e], .slice P ps.length cp] w (RetAB w (covN xs ys ps ps) (covM xs ys ps ps) (covR xs ys ps ps)) := by
  obtain ⟨r1, q1⟩ : ∃ r, (good xs ys) = r := ⟨_, rfl⟩
  cases r1
  case false =>
    have hO : covOk xs ys ps ps = false := by unfold covOk ; simp [q1]
    have hV_covN := covN_no hO
    have hV_covM := covM_no hO
    have hV_covR := covR_no hO
    rw [hV_covN]
    rw [hV_covM]
    rw [hV_covR]
    (try rw [hO])
    clear hO hV_covN hV_covM hV_covR
    have HG1 := Lib.hid (fun W (h : IntS W A xs) (k : IntS W B ys) => isTree_any A B c e xs ys W h k _hx _hy hn hm)
    rw [q1] at HG1
    clear q1 _hx _hy _bp
    go_enter Try.func68, Try.ntmps68
    go_wp2_with fail
    refine (HG1.out _ ((h.alloc _).alloc _) ((k.alloc _).alloc _)).mono ?_
    rintro e1 w1 ⟨rfl, hb⟩
    have hx0 : w1.cell? ⟨w.heap.size, 0, none⟩ = some (.slice A xs.length c) := keep_cell hb (by simp)
    have hx1 : w1.cell? ⟨w.heap.size, 1, none⟩ = some (.slice B ys.length e) := keep_cell hb (by simp)
    have hr0 : w1.cell? ⟨w.heap.size + 1, 0, none⟩ = some (.int .i64 0) := keep_cell hb (by simp)
    have hr1 : w1.cell? ⟨w.heap.size + 1, 1, none⟩ = some (.int .i64 0) := keep_cell hb (by simp)
    have hf0 : w1.frozen? ⟨w.heap.size + 1, 0, none⟩ = false := keep_froz hb (by simp) (by simp)
    have hf1 : w1.frozen? ⟨w.heap.size + 1, 1, none⟩ = false := keep_froz hb (by simp) (by simp)
    have hw : Below w.heap.size w w1 := below_alloc (below_alloc (hb))
    clear hb
    go_wp2
    refine bodyPost_ret (v := .tuple #[.agg #[.int .i64 0, .int .i64 0], .bool false]) (by simp (maxDischargeDepth := 9) [results, Try.results68, go_sem, *]) rfl ⟨rfl, ?_⟩
    (repeat (first | with_reducible exact Below.refl _ _ | with_reducible assumption | with_reducible refine Below.alloc' ?_ ?_ _ | with_reducible refine Below.setCell' ?_ ?_ _ | with_reducible refine Below.drewN' ?_ _ | with_reducible refine Below.drew ?_ | with_reducible refine Below.transA ?_ (by assumption) ?_ | omega | (focus (simp; done)) | (focus (simp; omega))))
  case true =>
    obtain ⟨r2, q2⟩ : ∃ r, (payB xs ps) = r := ⟨_, rfl⟩
    cases r2
    case false =>
      have hO : covOk xs ys ps ps = false := by unfold covOk ; simp [q1, q2]
      have hV_covN := covN_no hO
      have hV_covM := covM_no hO
      have hV_covR := covR_no hO
      rw [hV_covN]
      rw [hV_covM]
      rw [hV_covR]
      (try rw [hO])
      clear hO hV_covN hV_covM hV_covR
      have HG1 := Lib.hid (fun W (h : IntS W A xs) (k : IntS W B ys) => isTree_any A B c e xs ys W h k _hx _hy hn hm)
      rw [q1] at HG1
      have HG2 := Lib.hid (fun W (h : IntS W A xs) (zp : IntS W P ps) => arePays_good q1 A B P c ys.length e cp ps W h zp lp)
      rw [q2] at HG2
      clear q1 q2 _hx _hy _bp
      go_enter Try.func68, Try.ntmps68
      go_wp2_with fail
      refine (HG1.out _ ((h.alloc _).alloc _) ((k.alloc _).alloc _)).mono ?_
      rintro e1 w1 ⟨rfl, hb⟩
      have hx0 : w1.cell? ⟨w.heap.size, 0, none⟩ = some (.slice A xs.length c) := keep_cell hb (by simp)
      have hx1 : w1.cell? ⟨w.heap.size, 1, none⟩ = some (.slice B ys.length e) := keep_cell hb (by simp)
      have hr0 : w1.cell? ⟨w.heap.size + 1, 0, none⟩ = some (.int .i64 0) := keep_cell hb (by simp)
      have hr1 : w1.cell? ⟨w.heap.size + 1, 1, none⟩ = some (.int .i64 0) := keep_cell hb (by simp)
      have hf0 : w1.frozen? ⟨w.heap.size + 1, 0, none⟩ = false := keep_froz hb (by simp) (by simp)
      have hf1 : w1.frozen? ⟨w.heap.size + 1, 1, none⟩ = false := keep_froz hb (by simp) (by simp)
      have hw : Below w.heap.size w w1 := below_alloc (below_alloc (hb))
      clear hb
      go_wp2_with fail
      refine (HG2.out _ (h.below hw) (zp.below hw)).mono ?_
      rintro e1 w2 ⟨rfl, hb⟩
      replace hx0 := keep_cell hb hx0
      replace hx1 := keep_cell hb hx1
      replace hf0 := keep_froz hb (by rw [hr0]; rfl) hf0
      replace hf1 := keep_froz hb (by rw [hr1]; rfl) hf1
      replace hr0 := keep_cell hb hr0
      replace hr1 := keep_cell hb hr1
      replace hw := keep_below hb hw
      clear hb
      go_wp2
      refine bodyPost_ret (v := .tuple #[.agg #[.int .i64 0, .int .i64 0], .bool false]) (by simp (maxDischargeDepth := 9) [results, Try.results68, go_sem, *]) rfl ⟨rfl, ?_⟩
      (repeat (first | with_reducible exact Below.refl _ _ | with_reducible assumption | with_reducible refine Below.alloc' ?_ ?_ _ | with_reducible refine Below.setCell' ?_ ?_ _ | with_reducible refine Below.drewN' ?_ _ | with_reducible refine Below.drew ?_ | with_reducible refine Below.transA ?_ (by assumption) ?_ | omega | (focus (simp; done)) | (focus (simp; omega))))
    case true =>
      have hO : covOk xs ys ps ps = true := by unfold covOk ; simp [q1, q2]
      have hV_covN := covN_yes hO
      have hV_covM := covM_yes hO
      have hV_covR := covR_yes hO
      rw [hV_covN]
      rw [hV_covM]
      rw [hV_covR]
      (try rw [hO])
      clear hO hV_covN hV_covM hV_covR
      have HG1 := Lib.hid (fun W (h : IntS W A xs) (k : IntS W B ys) => isTree_any A B c e xs ys W h k _hx _hy hn hm)
      rw [q1] at HG1
      have HG2 := Lib.hid (fun W (h : IntS W A xs) (zp : IntS W P ps) => arePays_good q1 A B P c ys.length e cp ps W h zp lp)
      rw [q2] at HG2
      have HC := Lib.hid (fun W (h : IntS W A xs) (k : IntS W B ys) (zp : IntS W P ps) => covariance_good A B c e xs ys P cp ps P cp ps W q1 q2 q2 h k zp zp)
      generalize lowN (covA xs ys ps ps) (covB xs ys) = N at *
      generalize lowM (covA xs ys ps ps) (covB xs ys) = M at *
      generalize lowOk (covA xs ys ps ps) (covB xs ys) = O at *
      clear q1 q2 _hx _hy _bp
      go_enter Try.func68, Try.ntmps68
      go_wp2_with fail
      refine (HG1.out _ ((h.alloc _).alloc _) ((k.alloc _).alloc _)).mono ?_
      rintro e1 w1 ⟨rfl, hb⟩
      have hx0 : w1.cell? ⟨w.heap.size, 0, none⟩ = some (.slice A xs.length c) := keep_cell hb (by simp)
      have hx1 : w1.cell? ⟨w.heap.size, 1, none⟩ = some (.slice B ys.length e) := keep_cell hb (by simp)
      have hr0 : w1.cell? ⟨w.heap.size + 1, 0, none⟩ = some (.int .i64 0) := keep_cell hb (by simp)
      have hr1 : w1.cell? ⟨w.heap.size + 1, 1, none⟩ = some (.int .i64 0) := keep_cell hb (by simp)
      have hf0 : w1.frozen? ⟨w.heap.size + 1, 0, none⟩ = false := keep_froz hb (by simp) (by simp)
      have hf1 : w1.frozen? ⟨w.heap.size + 1, 1, none⟩ = false := keep_froz hb (by simp) (by simp)
      have hw : Below w.heap.size w w1 := below_alloc (below_alloc (hb))
      clear hb
      go_wp2_with fail
      refine (HG2.out _ (h.below hw) (zp.below hw)).mono ?_
      rintro e1 w2 ⟨rfl, hb⟩
      replace hx0 := keep_cell hb hx0
      replace hx1 := keep_cell hb hx1
      replace hf0 := keep_froz hb (by rw [hr0]; rfl) hf0
      replace hf1 := keep_froz hb (by rw [hr1]; rfl) hf1
      replace hr0 := keep_cell hb hr0
      replace hr1 := keep_cell hb hr1
      replace hw := keep_below hb hw
      clear hb
      go_wp2_with fail
      refine (HC.out _ (h.below hw) (k.below hw) (zp.below hw)).mono ?_
      rintro e1 wz ⟨rfl, hb⟩
      replace hf0 := keep_froz2 hb hr0 hf0
      replace hf1 := keep_froz2 hb hr1 hf1
      replace hr0 := keep_cell hb hr0
      replace hr1 := keep_cell hb hr1
      replace hw := keep_below hb hw
      go_wp2
      refine bodyPost_ret (v := .tuple #[.agg #[.int .i64 N, .int .i64 M], .bool O]) (by simp (maxDischargeDepth := 9) [results, Try.results68, go_sem, *]) rfl ⟨rfl, ?_⟩
      (repeat (first | with_reducible exact Below.refl _ _ | with_reducible assumption | with_reducible refine Below.alloc' ?_ ?_ _ | with_reducible refine Below.setCell' ?_ ?_ _ | with_reducible refine Below.drewN' ?_ _ | with_reducible refine Below.drew ?_ | with_reducible refine Below.transA ?_ (by assumption) ?_ | omega | (focus (simp; done)) | (focus (simp; omega))))
end Go.Proofs.Ytombfbmcplefgaa
