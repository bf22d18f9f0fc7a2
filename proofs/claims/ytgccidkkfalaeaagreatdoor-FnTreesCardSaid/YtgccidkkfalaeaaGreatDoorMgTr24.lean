/- Contracts: the reference's draws of trees' nodes, events and pays. -/
import Derived.BigQuiet
import Derived.Deep.QuietTactic
import Derived.Deep.DeepCutAuto
import Derived.Test.YtgccidkkfalaeaaGreatDoorMgTr20
import Derived.Test.YtgccidkkfalaeaaGreatDoorMgTr9
import Derived.Test.YtgccidkkfalaeaaGreatDoorMgTr23
import Derived.Test.YtgccidkkfalaeaaGreatDoorMgTr17
namespace Go.Proofs.YtgccidkkfalaeaaGreatDoor
open Go.ChangeShapes Go.WideShapes Go.ChangeAt Go.RowKit

set_option maxHeartbeats 1000000 in
theorem tree_draw {g n cc m : Nat} {C : Option Addr} (w : World) (h : CurB w g C n cc m) (hB : Byt w C n) (hne : ∀ b o, 0 < n → C = some ⟨b, o, none⟩ → b ≠ g) (hC : ∀ b o, 0 < n → C = some ⟨b, o, none⟩ → b < w.heap.size) (hn : n ≤ 1000000) (hm : m + 200 ≤ 1000000) :
    Calls Tryz.prog 32 #[.pointer (some ⟨g, 0, none⟩)] w (RetDr w g C n cc (m + 120)) := by
  have hgw := h.lt
  obtain ⟨w0, hw0⟩ : ∃ W, W = w.alloc (.cells #[.slice none 0 0, .slice none 0 0] 26) := ⟨_, rfl⟩
  have hb0 : Below w.heap.size w w0 := by rw [hw0]; exact (Below.refl _ _).alloc (Nat.le_refl _) _
  have hs0 : w0.heap.size = w.heap.size + 1 := by rw [hw0]; simp
  have hres : BlkT w0 w.heap.size (.slice none 0 0) (.slice none 0 0) := by rw [hw0]; exact BlkT.new w _ _ rfl
  have HT := Lib.hid (someTree_draw 24 w0 (h.below hb0) (hB.below hb0) hne (fun b o h0 e => by have := hC b o h0 e; omega) hm hn (by omega))
  clear hne hC hB h
  go_enter Tryz.func32, Tryz.ntmps32
  go_wp2_with fail
  rw [← hw0]
  refine HT.out.mono ?_
  rintro e1 w1 ⟨X, Y, A, B, c, d, rfl, hA, hB, hap, hX, hY, bX, bY, hd⟩
  replace hres := (hd.2.block _ hres.lt (by omega) (by omega)).trans hres
  have r0 := BlkT.c0 hres
  have r1 := BlkT.c1 hres
  have rf0 := BlkT.free hres 0
  have rf1 := BlkT.free hres 1
  have hkb := ((KeptBut.refl2 w1 w.heap.size).setg 0 (.slice A X.length c)).setg 1 (.slice B Y.length d)
  have hE := Lib.hid hd
  have hk := Lib.hid (KeptBut.pre hb0 hd.2)
  have hA' := (hkb.own hA (by omega) (by omega)).mono (B' := w.heap.size) (by omega)
  have hB' := (hkb.own hB (by omega) (by omega)).mono (B' := w.heap.size) (by omega)
  have HX := Lib.hid hX
  have HY := Lib.hid hY
  clear hd hA hB hkb hw0 hb0 HT hres hX hY
  go_wp2
  refine bodyPost_ret (v := .agg #[.slice A X.length c, .slice B Y.length d]) (by simp (maxDischargeDepth := 9) [results, Tryz.results32, go_sem, *]) rfl ⟨X, Y, A, B, c, d, rfl, hA', hB', hap, HX.out, HY.out, bX, bY, ((hE.out.1.far (by omega) 0 _).far (by omega) 1 _), kept_set (kept_set hk.out (Nat.le_refl _) 0 _) (Nat.le_refl _) 1 _⟩
set_option maxHeartbeats 2000000 in
set_option maxRecDepth 100000 in
theorem nodeOf_draw {g n cc m : Nat} {C : Option Addr} (A B : Option Addr) (k c l d : Nat) (w : World) (h : CurB w g C n cc m) (hB : Byt w C n) (hne : ∀ b o, 0 < n → C = some ⟨b, o, none⟩ → b ≠ g) (_hC : ∀ b o, 0 < n → C = some ⟨b, o, none⟩ → b < w.heap.size) (hn : n ≤ 1000000) (hm : m + 20 ≤ 1000000) (hk : k ≤ 1000) :
    Calls Tryz.prog 74 #[.pointer (some ⟨g, 0, none⟩), .agg #[.slice A k c, .slice B l d]] w fun e w' => ∃ r : Int, e = .returned (.int .i64 r) ∧ (-9223372036854775808 ≤ r ∧ r ≤ 9223372036854775807) ∧ Drew w g C n cc (m + 4) w' := by
  have hgw := h.lt
  obtain ⟨w0, hw0⟩ : ∃ W, W = w.alloc (.cells #[.slice A k c, .slice B l d] 26) := ⟨_, rfl⟩
  have hb0 : Below w.heap.size w w0 := by rw [hw0]; exact (Below.refl _ _).alloc (Nat.le_refl _) _
  have hs0 : w0.heap.size = w.heap.size + 1 := by rw [hw0]; simp
  have hbx : BlkT w0 w.heap.size (.slice A k c) (.slice B l d) := by rw [hw0]; exact BlkT.new w _ _ rfl
  have HP := Lib.hid (fun W (p : Int) m' (a : CurB W g C n cc m') (b : Byt W C n) (c : m' + 1 ≤ 1000000) (d : 1 ≤ p ∧ p ≤ 1000000000) => pick_draw p W a b hne c hn d)
  have HO := Lib.hid (fun W (p : Int) m' (a : CurB W g C n cc m') (b : Byt W C n) (c : m' + 1 ≤ 1000000) (d : 1 ≤ p ∧ p ≤ 1000000000) => one_draw p W a b hne c hn d)
  have HA := Lib.hid (fun W (A : Option Addr) (c : Nat) (xs : List Int) m' (a : CurB W g C n cc m') (b : Byt W C n) (cc' : m' + 1 ≤ 1000000) (h : IntS W A xs) (d : ∀ b o, A = some ⟨b, o, none⟩ → b ≠ g) (e : 1 ≤ xs.length ∧ xs.length ≤ 1000) => among_draw A c xs W a b hne cc' hn h d e)
  have HK := Lib.hid (fun W W' (b : Byt W C n) (hk : KeptBut W W' g g) => b.kept hk hne)
  have hc0 := h.below hb0
  have hB0 := hB.below hb0
  have hK0 := Lib.hid (kept_below (KeptBut.refl2 w g) hb0)
  have t0 := hbx.c0
  clear hne _hC hB h hb0
  by_cases hk0 : k = 0
  case pos =>
    subst hk0
    have hI := list_IntS w0 ([-1, 0, 0, 4611686018427387904] : List Int) (by decide)
    have HL : (i64s ([-1, 0, 0, 4611686018427387904] : List Int)).toArray = #[.int .i64 (-1), .int .i64 0, .int .i64 0, .int .i64 4611686018427387904] := rfl
    rw [HL, hs0] at hI
    have hbA : Below w0.heap.size w0 (w0.alloc (.cells #[.int .i64 (-1), .int .i64 0, .int .i64 0, .int .i64 4611686018427387904] 3)) := (Below.refl _ _).alloc (Nat.le_refl _) _
    have hR : Hid (∀ j, j < 4 → -9223372036854775808 ≤ nth ([-1, 0, 0, 4611686018427387904] : List Int) j ∧ nth ([-1, 0, 0, 4611686018427387904] : List Int) j ≤ 9223372036854775807) := by show ∀ j, j < 4 → _; decide
    replace hc0 := hc0.below hbA
    replace hB0 := hB0.below hbA
    have hK1 := Lib.hid (kept_below hK0.out hbA)
    clear HL hbA hK0 hbx
    go_enter Tryz.func74, Tryz.ntmps74
    go_wp2_with fail
    rw [← hw0]
    refine (HA.out _ _ 4 ([-1, 0, 0, 4611686018427387904] : List Int) _ hc0 hB0 (by omega) hI (fun b o e => by injection e with e; injection e with e; omega) (by decide)).mono ?_
    rintro e1 w2 ⟨j1, hj1, rfl, hd⟩
    have hr := hR.out j1 hj1
    generalize nth ([-1, 0, 0, 4611686018427387904] : List Int) j1 = r at *
    clear hI hR hw0 hc0 hB0
    go_wp2
    go_ret
    exact ⟨r, rfl, hr, hd.1.mono (by omega), hK1.out.trans2 hd.2⟩
  have i0 : ((k : Int) == 0) = false := by rw [beq_eq_false_iff_ne]; omega
  go_enter Tryz.func74, Tryz.ntmps74
  go_wp2_with fail
  rw [← hw0]
  refine (HO.out _ 24 _ hc0 hB0 (by omega) (by omega)).mono ?_
  rintro e1 w2 ⟨b1, rfl, hd⟩
  replace hbx : BlkT w2 w.heap.size (.slice A k c) (.slice B l d) := (hd.2.block _ hbx.lt (by omega) (by omega)).trans hbx
  replace hB0 := HK.out _ _ hB0 hd.2
  have hc2 := hd.1
  have hK2 := Lib.hid (hK0.out.trans2 hd.2)
  have hlt2 := hbx.lt
  clear hd hK0 hw0 hc0 t0
  have t0 := hbx.c0
  cases b1 with
  | true =>
    have hI := list_IntS w2 ([-1, 0, (k : Int), 4611686018427387904] : List Int) (by simp)
    have HL : (i64s ([-1, 0, (k : Int), 4611686018427387904] : List Int)).toArray = #[.int .i64 (-1), .int .i64 0, .int .i64 k, .int .i64 4611686018427387904] := rfl
    rw [HL] at hI
    have hbA : Below w2.heap.size w2 (w2.alloc (.cells #[.int .i64 (-1), .int .i64 0, .int .i64 k, .int .i64 4611686018427387904] 3)) := (Below.refl _ _).alloc (Nat.le_refl _) _
    have hgl := hc2.lt
    replace hc2 := hc2.below hbA
    replace hB0 := hB0.below hbA
    have hK3 := Lib.hid (kept_below hK2.out hbA)
    clear HL hbA hK2 hbx
    go_wp2_with fail
    refine (HA.out _ _ 4 ([-1, 0, (k : Int), 4611686018427387904] : List Int) _ hc2 hB0 (by omega) hI (fun b o e => by injection e with e; injection e with e; omega) (by simp)).mono ?_
    rintro e1 w3 ⟨j1, hj1, rfl, hd⟩
    have hr : -9223372036854775808 ≤ nth ([-1, 0, (k : Int), 4611686018427387904] : List Int) j1 ∧ nth ([-1, 0, (k : Int), 4611686018427387904] : List Int) j1 ≤ 9223372036854775807 := by
      rcases j1 with _ | _ | _ | _ | j1
      all_goals (simp [nth] at hj1 ⊢; try omega)
    generalize nth ([-1, 0, (k : Int), 4611686018427387904] : List Int) j1 = r at *
    clear hI hc2 hB0 hj1
    go_wp2
    go_ret
    exact ⟨r, rfl, hr, hd.1.mono (by omega), hK3.out.trans2 hd.2⟩
  | false =>
    go_wp2_with fail
    refine (HP.out _ (k : Int) _ hc2 hB0 (by omega) (by omega)).mono ?_
    rintro e1 w3 ⟨r, rfl, h0, h1, hd⟩
    clear hc2 hB0
    go_wp2
    go_ret
    exact ⟨r, rfl, by omega, hd.1.mono (by omega), hK2.out.trans2 hd.2⟩

theorem ends_bd (X : List Int) (j : Nat) (hj : j < (endsL X).length) : 0 ≤ nth (endsL X) j ∧ nth (endsL X) j ≤ (X.length : Int) := by
  obtain ⟨y, hy, hl, _⟩ := ends_mem hj
  omega
/-- What the draws of lists leave: a new list. -/
def RetDl (w : World) (g : Nat) (C : Option Addr) (n cc m : Nat) (e : Ending) (w' : World) : Prop := ∃ (L : List Int) (A : Option Addr) (c : Nat), e = .returned (.slice A L.length c) ∧ OwnS w' w.heap.size A L ∧ L.length ≤ 25 ∧ Bd L ∧ Drew w g C n cc m w'
end Go.Proofs.YtgccidkkfalaeaaGreatDoor
/- Contracts: numbers of the ends, gathered; pays. -/
namespace Go.Proofs.YtgccidkkfalaeaaGreatDoor
open Go.ChangeShapes Go.WideShapes Go.ChangeAt Go.RowKit

/-- The first k numbers at their ends, times the weights; 0 elsewhere. -/
def sprL (n : Nat) (ys E vs : List Int) : Nat → List Int
  | 0 => List.replicate n 0
  | k + 1 => (sprL n ys E vs k).set (nth E k).toNat (nth ys (nth E k).toNat * nth vs k)
theorem sprL_len (n : Nat) (ys E vs : List Int) (k : Nat) : (sprL n ys E vs k).length = n := by
  induction k with
  | zero => simp [sprL]
  | succ k ih => rw [sprL, List.length_set, ih]
theorem sprL_bd {n : Nat} {ys E vs : List Int} {V : Nat} (hy : ∀ j, 0 ≤ nth ys j ∧ nth ys j ≤ 20) (hv : ∀ j, -(V : Int) ≤ nth vs j ∧ nth vs j ≤ V) (k j : Nat) : (nth (sprL n ys E vs k) j).natAbs ≤ 20 * V := by
  induction k generalizing j with
  | zero => rw [sprL, nth_zero]; simp
  | succ k ih =>
    rw [sprL]
    by_cases hp : (nth E k).toNat < (sprL n ys E vs k).length
    · rw [nth_set _ _ _ _ hp]
      split
      · have h1 := hy (nth E k).toNat
        have h2 := hv k
        have := mul_bd (A := 20) (D := V) (a := nth ys (nth E k).toNat) (d := nth vs k) (by omega) h2
        omega
      · exact ih j
    · rw [List.set_eq_of_length_le (by omega)]; exact ih j
def totL (xs ys vs : List Int) : List Int := gat xs (sprL xs.length ys (endsL xs) vs (endsL xs).length) (xs.length - 1)
theorem spr_ok {xs ys vs : List Int} (hg : good xs ys = true) {V : Nat} (hv : ∀ j, -(V : Int) ≤ nth vs j ∧ nth vs j ≤ V) : OkL (480 * V) (sprL xs.length ys (endsL xs) vs (endsL xs).length) (xs.length - 1) := by
  have hl := good_len hg
  have hb := fun j => sprL_bd (n := xs.length) (E := endsL xs) (fun j => good_wt hg j) hv (endsL xs).length j
  have h2 := asum_le hb (xs.length - 1 + 1)
  have h3 : (xs.length - 1 + 1) * (20 * V) ≤ 24 * (20 * V) := Nat.mul_le_mul_right _ (by omega)
  exact ⟨fun j => by have := hb j; omega, by omega⟩
theorem tot_bd {xs ys vs : List Int} (hg : good xs ys = true) {V : Nat} (hv : ∀ j, -(V : Int) ≤ nth vs j ∧ nth vs j ≤ V) (j : Nat) : -(480 * (V : Int)) ≤ nth (totL xs ys vs) j ∧ nth (totL xs ys vs) j ≤ 480 * (V : Int) := by
  have hl := good_len hg
  have := gat_ok (xs.length - 1) (good_up hg) (by rw [sprL_len]; omega) (spr_ok hg hv) j
  unfold totL; omega
theorem tot_len {xs ys vs : List Int} : (totL xs ys vs).length = xs.length := by
  unfold totL; rw [gat_len, sprL_len]

/-- gathered(spread(..)) in one piece of facts. -/
theorem gath_good {xs ys : List Int} (hg : good xs ys = true) (A B P : Option Addr) (c e d : Nat) (vs : List Int) (w : World) (h : IntS w A xs) (V : Nat) (hV : V ≤ 1000000) (hv : ∀ j, -(V : Int) ≤ nth vs j ∧ nth vs j ≤ V) (k : IntS w P (sprL xs.length ys (endsL xs) vs (endsL xs).length)) :
    Calls Tryz.prog 66 #[.agg #[.slice A xs.length c, .slice B ys.length e], .slice P (sprL xs.length ys (endsL xs) vs (endsL xs).length).length d] w (RetI w (totL xs ys vs)) := by
  have hl := good_len hg
  rw [sprL_len]
  exact gathered_any A B P c ys.length e d xs _ w h k hl.1 (by omega) (good_iff.1 hg).2.1 (sprL_len _ _ _ _ _) (480 * V) (by omega) (spr_ok hg hv)
end Go.Proofs.YtgccidkkfalaeaaGreatDoor
/- Contracts: l2Totals, l2Pays, arePays. -/
namespace Go.Proofs.YtgccidkkfalaeaaGreatDoor
open Go.ChangeShapes Go.WideShapes Go.ChangeAt Go.RowKit

end Go.Proofs.YtgccidkkfalaeaaGreatDoor
/- Contracts: lists of pays. -/
namespace Go.Proofs.YtgccidkkfalaeaaGreatDoor
open Go.ChangeShapes Go.WideShapes Go.ChangeAt Go.RowKit

/-- Pays of a valid tree. -/
def payB (xs zs : List Int) : Bool := decide (zs.length = (endsL xs).length) && allIn zs (-999) 999
theorem pay_iff {xs zs : List Int} (h : payB xs zs = true) : zs.length = (endsL xs).length ∧ ∀ j, -999 ≤ nth zs j ∧ nth zs j ≤ 999 := by
  unfold payB at h
  rw [Bool.and_eq_true] at h
  exact ⟨of_decide_eq_true h.1, allIn_nth h.2 (by omega)⟩
end Go.Proofs.YtgccidkkfalaeaaGreatDoor
