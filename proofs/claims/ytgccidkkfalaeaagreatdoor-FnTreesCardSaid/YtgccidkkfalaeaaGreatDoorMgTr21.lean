/- Contracts: the chance of a node. -/
import Derived.StillTailTactics
import Derived.Deep.RegionHeld3
import Derived.Test.YtgccidkkfalaeaaGreatDoorMgTr10
import Derived.Test.YtgccidkkfalaeaaGreatDoorMgTr17
namespace Go.Proofs.YtgccidkkfalaeaaGreatDoor
open Go.ChangeShapes Go.WideShapes Go.ChangeAt Go.RowKit

/-- A call that hands back a pair and whether there is one. -/
def RetAB (w : World) (N M : Int) (r : Bool) (e : Ending) (w' : World) : Prop := e = .returned (.tuple #[.agg #[.int .i64 N, .int .i64 M], .bool r]) ∧ Below w.heap.size w w'
theorem low_small {a b : Int} (ha : -1000000000 ≤ a ∧ a ≤ 1000000000) (hb : 1 ≤ b ∧ b ≤ 1000000) : lowOk a b = true ∧ lowN a b = lowX a b ∧ lowM a b = lowY a b := by
  have h1 : -1000000000 ≤ lowX a b ∧ lowX a b ≤ 1000000000 := tdiv_bd a (lowD a b) 1000000000 (by omega) ha
  have h2 : -1000000 ≤ lowY a b ∧ lowY a b ≤ 1000000 := tdiv_bd b (lowD a b) 1000000 (by omega) (by omega)
  have h : lowOk a b = true := by unfold lowOk; rw [decide_eq_true h1, decide_eq_true h2.2]; rfl
  refine ⟨h, ?_, ?_⟩
  · unfold lowN; rw [if_pos h]
  · unfold lowM; rw [if_pos h]
noncomputable def chanOk (xs ys : List Int) (x : Int) : Bool := good xs ys && isNd xs.length x
noncomputable def chanN (xs ys : List Int) (x : Int) : Int := if chanOk xs ys x then lowX (nth (sumsL xs ys) x.toNat) (nth (sumsL xs ys) 0) else 0
noncomputable def chanM (xs ys : List Int) (x : Int) : Int := if chanOk xs ys x then lowY (nth (sumsL xs ys) x.toNat) (nth (sumsL xs ys) 0) else 0
set_option maxHeartbeats 1000000 in
set_option maxRecDepth 100000 in
theorem specChanceOf_any (A B : Option Addr) (c e : Nat) (xs ys : List Int) (x : Int) (w : World) (h : IntS w A xs) (k : IntS w B ys) (hx : Bd xs) (hy : Bd ys) (_hd : -9223372036854775808 ≤ x ∧ x ≤ 9223372036854775807) (hn : xs.length ≤ 1048576) (hm : ys.length ≤ 1048576) :
    Calls Tryz.prog 30 #[.agg #[.slice A xs.length c, .slice B ys.length e], .int .i64 x] w (RetAB w (chanN xs ys x) (chanM xs ys x) (chanOk xs ys x)) := by
  have HN := Lib.hid (fun W (h : IntS W A xs) (k : IntS W B ys) => l2Node_any A B c e xs ys x W h k hx hy hn hm)
  change Hid (∀ W (h : IntS W A xs) (k : IntS W B ys), Calls _ _ _ W fun e1 w' => e1 = .returned (.bool (chanOk xs ys x)) ∧ _) at HN
  clear hx hy
  obtain ⟨g, hg⟩ : ∃ g, chanOk xs ys x = g := ⟨_, rfl⟩
  cases g
  · have hN : chanN xs ys x = 0 := by unfold chanN; rw [hg]; rfl
    have hM : chanM xs ys x = 0 := by unfold chanM; rw [hg]; rfl
    rw [hN, hM, hg]
    rw [hg] at HN
    clear hg hN hM
    go_enter Tryz.func30, Tryz.ntmps30
    go_wp2_with fail
    refine (HN.out _ ((h.alloc _).alloc _) ((k.alloc _).alloc _)).mono ?_
    rintro e1 w1 ⟨rfl, hb1⟩
    (obtain ⟨hc1, hf1, hz1⟩ := bcell hb1; have hy1 := hb1.size; (try simp at hz1); (try simp at hy1); (try simp at hc1); (try simp at hf1))
    go_wp2
    refine bodyPost_ret (v := .tuple #[.agg #[.int .i64 0, .int .i64 0], .bool false]) (by simp (maxDischargeDepth := 9) [results, Tryz.results30, go_sem, *]) rfl ⟨rfl, ?_⟩
    (repeat (first | with_reducible exact Below.refl _ _ | with_reducible assumption | with_reducible refine Below.alloc' ?_ ?_ _ | with_reducible refine Below.setCell' ?_ ?_ _ | with_reducible refine Below.drewN' ?_ _ | with_reducible refine Below.drew ?_ | with_reducible refine Below.transA ?_ (by assumption) ?_ | omega | (focus (simp; done)) | (focus (simp; omega))))
  · have hN : chanN xs ys x = lowX (nth (sumsL xs ys) x.toNat) (nth (sumsL xs ys) 0) := by unfold chanN; rw [hg]; rfl
    have hM : chanM xs ys x = lowY (nth (sumsL xs ys) x.toNat) (nth (sumsL xs ys) 0) := by unfold chanM; rw [hg]; rfl
    have hok := hg
    unfold chanOk at hok
    simp only [Bool.and_eq_true] at hok
    obtain ⟨q, rfl, hq⟩ := nd_nat hok.2
    replace hok := hok.1
    have HK := Lib.hid (fun W (h : IntS W A xs) (k : IntS W B ys) => l2Sums_good hok A B c e W h k)
    have b1 := sums_bd hok q
    have b2 := sums_bd hok 0
    have b3 := sums_root hok
    have HL : Hid ((sumsL xs ys).length = xs.length) := sums_len hok
    have hgl := good_len hok
    rw [hN, hM, hg, Int.toNat_natCast]
    rw [hg] at HN
    clear hg hN hM hok
    generalize sumsL xs ys = S at *
    have HC := Lib.hid (fun W => l2Cut_any (nth S q) (nth S 0) W (by omega) (by omega) (by omega))
    have HL1 : Hid (1 ≤ S.length ∧ q < S.length) := by have := HL.out; exact ⟨by omega, by omega⟩
    clear hgl
    go_enter Tryz.func30, Tryz.ntmps30
    go_wp2_with fail
    refine (HN.out _ ((h.alloc _).alloc _) ((k.alloc _).alloc _)).mono ?_
    rintro e1 w1 ⟨rfl, hb1⟩
    have h' := h.below (by (repeat (first | with_reducible exact Below.refl _ _ | with_reducible assumption | with_reducible refine Below.alloc' ?_ ?_ _ | with_reducible refine Below.setCell' ?_ ?_ _ | with_reducible refine Below.drewN' ?_ _ | with_reducible refine Below.drew ?_ | with_reducible refine Below.transA ?_ (by assumption) ?_ | omega | (focus (simp; done)) | (focus (simp; omega)))) : Below w.heap.size w w1)
    have k' := k.below (by (repeat (first | with_reducible exact Below.refl _ _ | with_reducible assumption | with_reducible refine Below.alloc' ?_ ?_ _ | with_reducible refine Below.setCell' ?_ ?_ _ | with_reducible refine Below.drewN' ?_ _ | with_reducible refine Below.drew ?_ | with_reducible refine Below.transA ?_ (by assumption) ?_ | omega | (focus (simp; done)) | (focus (simp; omega)))) : Below w.heap.size w w1)
    (obtain ⟨hc1, hf1, hz1⟩ := bcell hb1; have hy1 := hb1.size; (try simp at hz1); (try simp at hy1); (try simp at hc1); (try simp at hf1))
    go_wp2_with fail
    refine (HK.out _ h' k').mono ?_
    rintro e1 w2 ⟨A', c', rfl, ho, hb2⟩
    obtain ⟨g, rfl, hg, hrow⟩ := ho.pos HL1.out.1
    have hc0 := hrow.cell (j := 0) HL1.out.1
    have hcq := hrow.cell (j := q) HL1.out.2
    have hlen : (q : Int) < S.length := by have := HL1.out; omega
    have hlen0 : 0 < S.length := HL1.out.1
    generalize nth S q = a at *
    generalize nth S 0 = b at *
    (replace hb2 := hb1.trans (hb2.mono hb1.size); clear hc1 hf1 hz1 hy1 hb1; (obtain ⟨hc2, hf2, hz2⟩ := bcell hb2; have hy2 := hb2.size; (try simp at hz2); (try simp at hy2); (try simp at hc2); (try simp at hf2)))
    clear hrow ho h' k' HN HK
    go_wp2
    go_still_tail 7, (by kernel_rfl)
    change wpList _ _ _ _ _ w2.drew
    go_wp2_with fail
    refine (HC.out _).mono ?_
    rintro e1 w3 ⟨rfl, hb3⟩
    replace hb3 : Below w2.heap.size w2 w3 := ⟨hb3.os, hb3.tape, hb3.output, hb3.size, hb3.block⟩
    (replace hb3 := hb2.trans (hb3.mono hb2.size); clear hc2 hf2 hz2 hy2 hb2; (obtain ⟨hc3, hf3, hz3⟩ := bcell hb3; have hy3 := hb3.size; (try simp at hz3); (try simp at hy3); (try simp at hc3); (try simp at hf3)))
    go_wp2
    refine bodyPost_ret (v := .tuple #[.agg #[.int .i64 (lowX a b), .int .i64 (lowY a b)], .bool true]) (by simp (maxDischargeDepth := 9) [results, Tryz.results30, go_sem, *]) rfl ⟨rfl, ?_⟩
    (repeat (first | with_reducible exact Below.refl _ _ | with_reducible assumption | with_reducible refine Below.alloc' ?_ ?_ _ | with_reducible refine Below.setCell' ?_ ?_ _ | with_reducible refine Below.drewN' ?_ _ | with_reducible refine Below.drew ?_ | with_reducible refine Below.transA ?_ (by assumption) ?_ | omega | (focus (simp; done)) | (focus (simp; omega))))
set_option maxHeartbeats 1000000 in
theorem implChanceOf_any (A B : Option Addr) (c e : Nat) (xs ys : List Int) (x : Int) (w : World) (h : IntS w A xs) (k : IntS w B ys) (hx : Bd xs) (hy : Bd ys) (_hd : -9223372036854775808 ≤ x ∧ x ≤ 9223372036854775807) (hn : xs.length ≤ 1048576) (hm : ys.length ≤ 1048576) :
    Calls Tryz.prog 29 #[.agg #[.slice A xs.length c, .slice B ys.length e], .int .i64 x] w (RetAB w (chanN xs ys x) (chanM xs ys x) (chanOk xs ys x)) := by
  obtain ⟨r, hr⟩ : ∃ r, good xs ys = r := ⟨_, rfl⟩
  have HG := Lib.hid (fun W (h : IntS W A xs) (k : IntS W B ys) => isTree_r hr A B c e W h k hx hy hn hm)
  have HN := Lib.hid (fun W => isNode_any A B c ys.length e xs.length x W hn)
  clear hx hy
  cases r
  · have hO : chanOk xs ys x = false := by unfold chanOk; rw [hr]; rfl
    have hN : chanN xs ys x = 0 := by unfold chanN; rw [hO]; rfl
    have hM : chanM xs ys x = 0 := by unfold chanM; rw [hO]; rfl
    rw [hN, hM, hO]
    clear hO hN hM hr
    go_enter Tryz.func29, Tryz.ntmps29
    go_wp2_with fail
    refine (HG.out _ ((h.alloc _).alloc _) ((k.alloc _).alloc _)).mono ?_
    rintro e1 w1 ⟨rfl, hb1⟩
    (obtain ⟨hc1, hf1, hz1⟩ := bcell hb1; have hy1 := hb1.size; (try simp at hz1); (try simp at hy1); (try simp at hc1); (try simp at hf1))
    go_wp2
    refine bodyPost_ret (v := .tuple #[.agg #[.int .i64 0, .int .i64 0], .bool false]) (by simp (maxDischargeDepth := 9) [results, Tryz.results29, go_sem, *]) rfl ⟨rfl, ?_⟩
    (repeat (first | with_reducible exact Below.refl _ _ | with_reducible assumption | with_reducible refine Below.alloc' ?_ ?_ _ | with_reducible refine Below.setCell' ?_ ?_ _ | with_reducible refine Below.drewN' ?_ _ | with_reducible refine Below.drew ?_ | with_reducible refine Below.transA ?_ (by assumption) ?_ | omega | (focus (simp; done)) | (focus (simp; omega))))
  · obtain ⟨q, hq⟩ : ∃ q, isNd xs.length x = q := ⟨_, rfl⟩
    have hO : chanOk xs ys x = q := by unfold chanOk; rw [hr, hq]; rfl
    rw [hq] at HN
    cases q
    · have hN : chanN xs ys x = 0 := by unfold chanN; rw [hO]; rfl
      have hM : chanM xs ys x = 0 := by unfold chanM; rw [hO]; rfl
      rw [hN, hM, hO]
      clear hO hN hM hr hq
      go_enter Tryz.func29, Tryz.ntmps29
      go_wp2_with fail
      refine (HG.out _ ((h.alloc _).alloc _) ((k.alloc _).alloc _)).mono ?_
      rintro e1 w1 ⟨rfl, hb1⟩
      (obtain ⟨hc1, hf1, hz1⟩ := bcell hb1; have hy1 := hb1.size; (try simp at hz1); (try simp at hy1); (try simp at hc1); (try simp at hf1))
      go_wp2_with fail
      refine (HN.out _).mono ?_
      rintro e1 w2 ⟨rfl, hb2⟩
      (replace hb2 := hb1.trans (hb2.mono hb1.size); clear hc1 hf1 hz1 hy1 hb1; (obtain ⟨hc2, hf2, hz2⟩ := bcell hb2; have hy2 := hb2.size; (try simp at hz2); (try simp at hy2); (try simp at hc2); (try simp at hf2)))
      go_wp2
      refine bodyPost_ret (v := .tuple #[.agg #[.int .i64 0, .int .i64 0], .bool false]) (by simp (maxDischargeDepth := 9) [results, Tryz.results29, go_sem, *]) rfl ⟨rfl, ?_⟩
      (repeat (first | with_reducible exact Below.refl _ _ | with_reducible assumption | with_reducible refine Below.alloc' ?_ ?_ _ | with_reducible refine Below.setCell' ?_ ?_ _ | with_reducible refine Below.drewN' ?_ _ | with_reducible refine Below.drew ?_ | with_reducible refine Below.transA ?_ (by assumption) ?_ | omega | (focus (simp; done)) | (focus (simp; omega))))
    · have hN : chanN xs ys x = lowX (nth (sumsL xs ys) x.toNat) (nth (sumsL xs ys) 0) := by unfold chanN; rw [hO]; rfl
      have hM : chanM xs ys x = lowY (nth (sumsL xs ys) x.toNat) (nth (sumsL xs ys) 0) := by unfold chanM; rw [hO]; rfl
      obtain ⟨q, rfl, hq⟩ := nd_nat hq
      have HK := Lib.hid (fun W (h : IntS W A xs) (k : IntS W B ys) => sums_good hr A B c e W h k)
      have b1 := sums_bd hr q
      have b2 := sums_bd hr 0
      have b3 := sums_root hr
      have HL : Hid ((sumsL xs ys).length = xs.length) := sums_len hr
      have hgl := good_len hr
      rw [hN, hM, hO, Int.toNat_natCast]
      clear hO hN hM hr
      generalize sumsL xs ys = S at *
      have HC := fun W => lowest_any (nth S q) (nth S 0) W (by omega) (by omega) (by omega)
      have hlo := low_small (a := nth S q) (b := nth S 0) (by omega) (by omega)
      rw [hlo.1, hlo.2.1, hlo.2.2] at HC
      replace HC := Lib.hid HC
      have HL1 : Hid (1 ≤ S.length ∧ q < S.length) := by have := HL.out; exact ⟨by omega, by omega⟩
      clear hgl hlo
      go_enter Tryz.func29, Tryz.ntmps29
      go_wp2_with fail
      refine (HG.out _ ((h.alloc _).alloc _) ((k.alloc _).alloc _)).mono ?_
      rintro e1 w1 ⟨rfl, hb1⟩
      have h' := h.below (by (repeat (first | with_reducible exact Below.refl _ _ | with_reducible assumption | with_reducible refine Below.alloc' ?_ ?_ _ | with_reducible refine Below.setCell' ?_ ?_ _ | with_reducible refine Below.drewN' ?_ _ | with_reducible refine Below.drew ?_ | with_reducible refine Below.transA ?_ (by assumption) ?_ | omega | (focus (simp; done)) | (focus (simp; omega)))) : Below w.heap.size w w1)
      have k' := k.below (by (repeat (first | with_reducible exact Below.refl _ _ | with_reducible assumption | with_reducible refine Below.alloc' ?_ ?_ _ | with_reducible refine Below.setCell' ?_ ?_ _ | with_reducible refine Below.drewN' ?_ _ | with_reducible refine Below.drew ?_ | with_reducible refine Below.transA ?_ (by assumption) ?_ | omega | (focus (simp; done)) | (focus (simp; omega)))) : Below w.heap.size w w1)
      (obtain ⟨hc1, hf1, hz1⟩ := bcell hb1; have hy1 := hb1.size; (try simp at hz1); (try simp at hy1); (try simp at hc1); (try simp at hf1))
      go_wp2_with fail
      refine (HN.out _).mono ?_
      rintro e1 w2 ⟨rfl, hb2⟩
      replace h' := h'.below hb2
      replace k' := k'.below hb2
      (replace hb2 := hb1.trans (hb2.mono hb1.size); clear hc1 hf1 hz1 hy1 hb1; (obtain ⟨hc2, hf2, hz2⟩ := bcell hb2; have hy2 := hb2.size; (try simp at hz2); (try simp at hy2); (try simp at hc2); (try simp at hf2)))
      go_wp2_with fail
      refine (HK.out _ h' k').mono ?_
      rintro e1 w3 ⟨A', c', rfl, ho, hb3⟩
      obtain ⟨g, rfl, hg, hrow⟩ := ho.pos HL1.out.1
      have hc0 := hrow.cell (j := 0) HL1.out.1
      have hcq := hrow.cell (j := q) HL1.out.2
      have hlen : (q : Int) < S.length := by have := HL1.out; omega
      have hlen0 : 0 < S.length := HL1.out.1
      have hne : g ≠ w.heap.size + 1 := by omega
      generalize nth S q = a at *
      generalize nth S 0 = b at *
      (replace hb3 := hb2.trans (hb3.mono hb2.size); clear hc2 hf2 hz2 hy2 hb2; (obtain ⟨hc3, hf3, hz3⟩ := bcell hb3; have hy3 := hb3.size; (try simp at hz3); (try simp at hy3); (try simp at hc3); (try simp at hf3)))
      clear hrow ho h' k' HN HK
      go_wp2
      go_region_held3 (fun w' => w'.cell? ⟨g, q, none⟩ = some (.int .i64 a) ∧ w'.cell? ⟨g, 0, none⟩ = some (.int .i64 b))
        (first | exact ⟨hcq, hc0⟩ | exact ⟨by assumption, by assumption⟩ | exact ⟨cell_far (cell_far (by assumption) hne 0) hne 1, cell_far (cell_far (by assumption) hne 0) hne 1⟩ | go_keep)
        ((go_at_call 61; refine (HC.out _).mono ?_; rintro e1 w4 ⟨rfl, hb4⟩; (replace hb4 : Below w3.heap.size w3 w4 := ⟨hb4.os, hb4.tape, hb4.output, hb4.size, hb4.block⟩); (have hq4 := keep_cell hb4 hcq); (have h04 := keep_cell hb4 hc0); (replace hb4 := hb3.trans (hb4.mono hb3.size); clear hc3 hf3 hz3 hy3 hb3; (obtain ⟨hc4, hf4, hz4⟩ := bcell hb4; have hy4 := hb4.size; (try simp at hz4); (try simp at hy4); (try simp at hc4); (try simp at hf4)))))
      all_goals go_wp2
      refine bodyPost_ret (v := .tuple #[.agg #[.int .i64 (lowX a b), .int .i64 (lowY a b)], .bool true]) (by simp (maxDischargeDepth := 9) [results, Tryz.results29, go_sem, *]) rfl ⟨rfl, ?_⟩
      (repeat (first | with_reducible exact Below.refl _ _ | with_reducible assumption | with_reducible refine Below.alloc' ?_ ?_ _ | with_reducible refine Below.setCell' ?_ ?_ _ | with_reducible refine Below.drewN' ?_ _ | with_reducible refine Below.drew ?_ | with_reducible refine Below.transA ?_ (by assumption) ?_ | omega | (focus (simp; done)) | (focus (simp; omega))))
end Go.Proofs.YtgccidkkfalaeaaGreatDoor
