/- Contracts: numbers of the ends, gathered; pays. -/
import Derived.Test.YtombfbmcplefgaaStake
import Derived.Test.YtombfbmcplefgaaHigh
import Derived.Deep.DeepCutAuto
namespace Go.Proofs.Ytombfbmcplefgaa
open Go.ChangeShapes Go.WideShapes Go.ChangeAt Go.RowKit

/-- The first k numbers at their ends, times the weights; 0 elsewhere. -/
def sprL (n : Nat) (ys E vs : List Int) : Nat → List Int
  | 0 => List.replicate n 0
  | k + 1 => (sprL n ys E vs k).set (nth E k).toNat (nth ys (nth E k).toNat * nth vs k)
theorem sprL_len (n : Nat) (ys E vs : List Int) (k : Nat) : (sprL n ys E vs k).length = n := by
  induction k with
  | zero => simp [sprL]
  | succ k ih => rw [sprL, List.length_set, ih]
theorem sprL_bd {n : Nat} {ys E vs : List Int} {V : Nat} (hy : ∀ j, 0 ≤ nth ys j ∧ nth ys j ≤ 20) (hv : ∀ j, -(V : Int) ≤ nth vs j ∧ nth vs j ≤ V) (k j : Nat) : (nth (sprL n ys E vs k) j).natAbs ≤ 20 * V := by
  induction k generalizing j with
  | zero => rw [sprL, nth_zero]; simp
  | succ k ih =>
    rw [sprL]
    by_cases hp : (nth E k).toNat < (sprL n ys E vs k).length
    · rw [nth_set _ _ _ _ hp]
      split
      · have h1 := hy (nth E k).toNat
        have h2 := hv k
        have := mul_bd (A := 20) (D := V) (a := nth ys (nth E k).toNat) (d := nth vs k) (by omega) h2
        omega
      · exact ih j
    · rw [List.set_eq_of_length_le (by omega)]; exact ih j
def totL (xs ys vs : List Int) : List Int := gat xs (sprL xs.length ys (endsL xs) vs (endsL xs).length) (xs.length - 1)
theorem spr_ok {xs ys vs : List Int} (hg : good xs ys = true) {V : Nat} (hv : ∀ j, -(V : Int) ≤ nth vs j ∧ nth vs j ≤ V) : OkL (480 * V) (sprL xs.length ys (endsL xs) vs (endsL xs).length) (xs.length - 1) := by
  have hl := good_len hg
  have hb := fun j => sprL_bd (n := xs.length) (E := endsL xs) (fun j => good_wt hg j) hv (endsL xs).length j
  have h2 := asum_le hb (xs.length - 1 + 1)
  have h3 : (xs.length - 1 + 1) * (20 * V) ≤ 24 * (20 * V) := Nat.mul_le_mul_right _ (by omega)
  exact ⟨fun j => by have := hb j; omega, by omega⟩
theorem tot_bd {xs ys vs : List Int} (hg : good xs ys = true) {V : Nat} (hv : ∀ j, -(V : Int) ≤ nth vs j ∧ nth vs j ≤ V) (j : Nat) : -(480 * (V : Int)) ≤ nth (totL xs ys vs) j ∧ nth (totL xs ys vs) j ≤ 480 * (V : Int) := by
  have hl := good_len hg
  have := gat_ok (xs.length - 1) (good_up hg) (by rw [sprL_len]; omega) (spr_ok hg hv) j
  unfold totL; omega
theorem tot_len {xs ys vs : List Int} : (totL xs ys vs).length = xs.length := by
  unfold totL; rw [gat_len, sprL_len]

set_option maxHeartbeats 1000000 in
set_option maxRecDepth 100000 in
theorem spread_any {xs ys : List Int} (hg : good xs ys = true) (A B P : Option Addr) (c e cz : Nat) (vs : List Int) (w : World) (h : IntS w A xs) (k : IntS w B ys) (z : IntS w P vs) (hz : vs.length = (endsL xs).length) (V : Nat) (hV : V ≤ 1000000) (hv : ∀ j, -(V : Int) ≤ nth vs j ∧ nth vs j ≤ V) :
    Calls Try.prog 154 #[.agg #[.slice A xs.length c, .slice B ys.length e], .slice P vs.length cz] w (RetI w (sprL xs.length ys (endsL xs) vs (endsL xs).length)) := by
  have hgl := good_len hg
  have HE := Lib.hid (fun W (h : IntS W A xs) => ends_any A B c ys.length e xs W h (by omega) (good_iff.1 hg).2.1 (good_root hg))
  have HW := Lib.hid (fun q => good_wt hg q)
  have hel := ends_len xs
  have hep := ends_pos hg
  have HEM : Hid (∀ j, j < (endsL xs).length → ∃ y : Nat, nth (endsL xs) j = y ∧ y < xs.length) := fun j hj => by obtain ⟨y, h1, h2, _⟩ := ends_mem hj; exact ⟨y, h1, h2⟩
  have HV := Lib.hid hv
  obtain ⟨n, e1⟩ : ∃ n, xs.length = n := ⟨_, rfl⟩
  have e2 : ys.length = n := by rw [hgl.2.2]; exact e1
  have HVL := Lib.hid hz
  simp only [e1, e2, hz] at HE HEM hgl hel ⊢
  have HN := Lib.hid e1.symm
  have HY := Lib.hid e2.symm
  obtain ⟨hgl1, hgl2, _⟩ := hgl
  clear e1 e2 hz hv hg
  have hmk := run_makeI n (by omega)
  have HSL := Lib.hid (fun k => sprL_len n ys (endsL xs) vs k)
  have HS0 : Hid (sprL n ys (endsL xs) vs 0 = List.replicate n 0) := rfl
  have HSS : Hid (∀ k, sprL n ys (endsL xs) vs (k + 1) = (sprL n ys (endsL xs) vs k).set (nth (endsL xs) k).toNat (nth ys (nth (endsL xs) k).toNat * nth vs k)) := fun k => rfl
  generalize sprL n ys (endsL xs) vs = F at *
  generalize endsL xs = E at *
  go_enter Try.func154, Try.ntmps154
  go_wp2_with fail
  refine (HE.out _ ((h.alloc _).alloc _)).mono ?_
  rintro e1 w1 ⟨A1, c1, rfl, ho, hb1⟩
  have hx1 : w1.cell? ⟨w.heap.size, 1, none⟩ = some (.slice B n e) := keep_cell hb1 (by simp)
  have hrx : RowX w1 (w.heap.size + 1) (F 0) := by
    rw [HS0.out]
    exact (RowX.zero (w.alloc (.cells #[.slice A n c, .slice B n e] 28)) n (by simp)).below (hb1 : Below ((w.alloc _).alloc (.cells (Array.replicate n (Value.int .i64 0)) 3)).heap.size _ _)
  obtain ⟨gE, rfl, hgE, hE⟩ := ho.pos hep
  replace hgE : w.heap.size + 1 < gE := by simp at hgE; omega
  have hw : Below w.heap.size w w1 := below_alloc (below_alloc hb1)
  clear ho HE hb1 hmk
  go_wp2
  go_loopw [15] (fun i wr => ∃ j : Nat, j ≤ E.length ∧ i = .int .i64 j ∧ RowX wr (w.heap.size + 1) (F j) ∧ Row wr gE E ∧ wr.cell? ⟨w.heap.size, 1, none⟩ = some (.slice B n e) ∧ Below w.heap.size w wr) (fun i _ => E.length - (intOf i).toNat)
  case atStart => exact ⟨0, by omega, rfl, hrx, hE, hx1, hw⟩
  case round =>
    clear hrx hE hx1 hw
    obtain ⟨j, hj, rfl, hrx, hE, hx1, hw⟩ := hrel
    by_cases hlt : j < E.length
    · obtain ⟨y, hy, hyn⟩ := HEM.out j hlt
      have hcE := hE.cell hlt
      obtain ⟨b, o, rfl, hcv⟩ := (z.below hw).at_ (j := j) (by rw [HVL.out]; exact hlt)
      obtain ⟨b2, o2, rfl, hcy⟩ := (k.below hw).at_ (j := y) (by rw [← HY.out]; exact hyn)
      have hck := hrx.cell (j := y) (by rw [HSL.out]; exact hyn)
      have hfk := hrx.free y
      have v1 := HV.out j
      have v2 := HW.out y
      have hss := HSS.out j
      rw [hy, Int.toNat_natCast] at hss
      rw [hy] at hcE
      obtain ⟨a, ha⟩ : ∃ a, nth vs j = a := ⟨_, rfl⟩
      obtain ⟨q, hq⟩ : ∃ q, nth ys y = q := ⟨_, rfl⟩
      rw [ha, hq] at hss
      rw [ha] at hcv v1
      rw [hq] at hcy v2
      have v3 := mul_bd (A := 20) (D := V) (a := q) (d := a) (by omega) v1
      obtain ⟨m, hm⟩ : ∃ m, q * a = m := ⟨_, rfl⟩
      have u1 : IntKind.i64.wrap (a * q) = m := by rw [Int.mul_comm, hm]; exact IntWalk.i64_in _ (by omega)
      rw [hm] at hss
      have hlj : (j : Int) < E.length := by omega
      have hset := hrx.set y m
      rw [← hss] at hset
      have HX := Lib.hid hset
      have HB := Lib.hid (cell_far (g := w.heap.size + 1) (u := .int .i64 m) hx1 (by simp) y)
      have HR := Lib.hid ((KeptBut.refl2 wr (w.heap.size + 1)).setg y (.int .i64 m) |>.row hE (by omega) (by omega))
      have hb2 := below_far (g := w.heap.size + 1) (v := .int .i64 m) hw (by omega) y
      have hyi : (y : Int) < n := by omega
      clear hy ha hq hm hss hset hrx v1 v2 v3
      generalize F j = L at *
      go_wp2
      go_still_tail 13, (by kernel_rfl)
      change wpList _ _ _ _ _ wr.drew
      go_wp2
      go_roundw
      case rel => exact ⟨j + 1, by omega, by go_num, HX.out, HR.out, HB.out, hb2.drew⟩
      case measure => simp [intOf]; omega
    · have hje : j = E.length := by omega
      subst hje
      have hll := Lib.hid (HSL.out E.length)
      clear HSL HSS HS0 HV HW HEM
      go_wp2
      go_ret
      exact ⟨some ⟨w.heap.size + 1, 0, none⟩, n, by rw [hll.out]; rfl, .inr ⟨_, rfl, by omega, hrx.row⟩, hw⟩
/-- gathered(spread(..)) in one piece of facts. -/
theorem gath_good {xs ys : List Int} (hg : good xs ys = true) (A B P : Option Addr) (c e d : Nat) (vs : List Int) (w : World) (h : IntS w A xs) (V : Nat) (hV : V ≤ 1000000) (hv : ∀ j, -(V : Int) ≤ nth vs j ∧ nth vs j ≤ V) (k : IntS w P (sprL xs.length ys (endsL xs) vs (endsL xs).length)) :
    Calls Try.prog 141 #[.agg #[.slice A xs.length c, .slice B ys.length e], .slice P (sprL xs.length ys (endsL xs) vs (endsL xs).length).length d] w (RetI w (totL xs ys vs)) := by
  have hl := good_len hg
  rw [sprL_len]
  exact gathered_any A B P c ys.length e d xs _ w h k hl.1 (by omega) (good_iff.1 hg).2.1 (sprL_len _ _ _ _ _) (480 * V) (by omega) (spr_ok hg hv)
end Go.Proofs.Ytombfbmcplefgaa
