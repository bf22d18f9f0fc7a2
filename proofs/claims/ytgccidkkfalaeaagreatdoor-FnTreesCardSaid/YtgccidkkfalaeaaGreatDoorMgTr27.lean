/- Contracts: PruneTree of the program. -/
import Derived.StillTailTactics
import Derived.Deep.DeepCutAuto
import Derived.Deep.QuietTactic
import Derived.BigQuiet
import Derived.Test.YtgccidkkfalaeaaGreatDoorMgTr25
import Derived.Test.YtgccidkkfalaeaaGreatDoorMgTr9
import Derived.Test.YtgccidkkfalaeaaGreatDoorMgTr10
import Derived.Test.YtgccidkkfalaeaaGreatDoorMgTr1
namespace Go.Proofs.YtgccidkkfalaeaaGreatDoor
open Go.ChangeShapes Go.WideShapes Go.ChangeAt Go.RowKit

/-- All old blocks but two are as they were. -/
structure Kept2 (w w' : World) (p q : Nat) : Prop where
  os : w'.os = w.os
  tape : w'.tape = w.tape
  output : w'.output = w.output
  size : w.heap.size ≤ w'.heap.size
  block : ∀ k, k < w.heap.size → k ≠ p → k ≠ q → w'.heap[k]? = w.heap[k]?
section
variable {w W w1 : World} {p q : Nat}
theorem Kept2.refl (w : World) (p q : Nat) : Kept2 w w p q := ⟨rfl, rfl, rfl, Nat.le_refl _, fun _ _ _ _ => rfl⟩
theorem Kept2.below (h : Kept2 w W p q) (hb : Below W.heap.size W w1) : Kept2 w w1 p q :=
  ⟨hb.os.trans h.os, hb.tape.trans h.tape, hb.output.trans h.output, Nat.le_trans h.size hb.size, fun k hk hp hq => (hb.block k (Nat.lt_of_lt_of_le hk h.size)).trans (h.block k hk hp hq)⟩
theorem Kept2.set0 (h : Kept2 w W p q) (j : Nat) (v : Value) : Kept2 w (W.setCell ⟨p, j, none⟩ v) p q :=
  ⟨h.os, h.tape, h.output, by simpa [World.setCell] using h.size, fun k hk hp hq => by rw [Below.heap_setCell _ _ _ _ hp]; exact h.block k hk hp hq⟩
theorem Kept2.set1 (h : Kept2 w W p q) (j : Nat) (v : Value) : Kept2 w (W.setCell ⟨q, j, none⟩ v) p q :=
  ⟨h.os, h.tape, h.output, by simpa [World.setCell] using h.size, fun k hk hp hq => by rw [Below.heap_setCell _ _ _ _ hq]; exact h.block k hk hp hq⟩
theorem Kept2.grown {row : Option Nat} (h : Kept2 w W p q) (hg : W.grownBy w1 row) (hr : ∀ g, row = some g → w.heap.size ≤ g) : Kept2 w w1 p q :=
  ⟨hg.os.trans h.os, hg.tape.trans h.tape, hg.output.trans h.output, Nat.le_trans h.size hg.size, fun k hk hp hq => (hg.block k (Nat.lt_of_lt_of_le hk h.size) (fun e => by have := hr k e.symm; omega)).trans (h.block k hk hp hq)⟩
theorem Kept2.cell (h : Kept2 w W p q) {a : Addr} {v : Value} (hc : w.cell? a = some v) (hp : a.block ≠ p) (hq : a.block ≠ q) : W.cell? a = some v :=
  (World.cell?_of_block (h.block a.block (World.block_lt_of_cell? w a hc) hp hq)).trans hc
theorem Kept2.under (h : Kept2 w W p q) {u : World} (hb : Below u.heap.size u w) (hp : u.heap.size ≤ p) (hq : u.heap.size ≤ q) : Below u.heap.size u W :=
  hb.trans ⟨h.os, h.tape, h.output, h.size, fun k hk => h.block k (Nat.lt_of_lt_of_le hk hb.size) (by omega) (by omega)⟩
end
/-- What stood before stands. -/
structure Ex (wb W : World) : Prop where
  b : Below wb.heap.size wb W
theorem Ex.below {wb W w1 : World} (h : Ex wb W) (hb : Below W.heap.size W w1) : Ex wb w1 := ⟨keep_below hb h.b⟩
theorem Ex.set {wb W : World} (h : Ex wb W) {g : Nat} (hg : wb.heap.size ≤ g) (j : Nat) (v : Value) : Ex wb (W.setCell ⟨g, j, none⟩ v) := ⟨Below.setCell' (p := ⟨g, j, none⟩) hg h.b _⟩
theorem RowX.grown {w w' : World} {g : Nat} {L : List Int} {row : Option Nat} (h : RowX w g L) (hg : w.grownBy w' row) (hr : row ≠ some g) : RowX w' g L := (hg.block g h.lt (fun e => hr e.symm)).trans h
theorem RowX.far {w : World} {g q j : Nat} {L : List Int} {v : Value} (h : RowX w g L) (hq : g ≠ q) : RowX (w.setCell ⟨q, j, none⟩ v) g L := (Below.heap_setCell _ _ _ _ hq).trans h
theorem Two.far {w : World} {B gT n m q j : Nat} {va vb v : Value} {xs ys : List Int} (h : Two w B gT va vb n m xs ys) (hq : gT ≠ q) (h0 : va.ownBlock ≠ some q) (h1 : vb.ownBlock ≠ some q) : Two (w.setCell ⟨q, j, none⟩ v) B gT va vb n m xs ys :=
  ⟨(Below.heap_setCell _ _ _ _ hq).trans h.blk, own_keptv h.own0 (grown_set1 _ _ _ _) fun g e e2 => h0 (by rw [e, ← e2]), own_keptv h.own1 (grown_set1 _ _ _ _) fun g e e2 => h1 (by rw [e, ← e2]), h.ne0, h.ne1, h.ap⟩
set_option maxHeartbeats 16000000 in
set_option maxRecDepth 100000 in
theorem implPruneTree_any (A B : Option Addr) (c e : Nat) (xs ys : List Int) (d9 : Int) (w : World) (h : IntS w A xs) (k : IntS w B ys) (_hx : Bd xs) (_hy : Bd ys) (_hd9 : -9223372036854775808 ≤ d9 ∧ d9 ≤ 9223372036854775807) (hn : xs.length ≤ 1048576) (hm : ys.length ≤ 1048576) :
    Calls Tryz.prog 22 #[.agg #[.slice A xs.length c, .slice B ys.length e], .int .i64 d9] w (RetTB w (prRP xs ys d9) (prRW xs ys d9) (prOk xs ys d9)) := by
  obtain ⟨r1, q1⟩ : ∃ r, (good xs ys) = r := ⟨_, rfl⟩
  cases r1
  case false =>
    have hO : prIn xs ys d9 = false := by unfold prIn ; simp [q1]
    have hV_prRP := prRP_no hO
    have hV_prRW := prRW_no hO
    have hV_prOk := prOk_no hO
    rw [hV_prRP]
    rw [hV_prRW]
    rw [hV_prOk]
    (try rw [hO])
    clear hO hV_prRP hV_prRW hV_prOk
    have HG1 := Lib.hid (fun W (h : IntS W A xs) (k : IntS W B ys) => isTree_any A B c e xs ys W h k _hx _hy hn hm)
    rw [q1] at HG1
    clear q1 _hx _hy 
    go_enter Tryz.func22, Tryz.ntmps22
    go_wp2_with fail
    refine (HG1.out _ ((h.alloc _).alloc _) ((k.alloc _).alloc _)).mono ?_
    rintro e1 w1 ⟨rfl, hb⟩
    have hx0 : w1.cell? ⟨w.heap.size, 0, none⟩ = some (.slice A xs.length c) := keep_cell hb (by simp)
    have hx1 : w1.cell? ⟨w.heap.size, 1, none⟩ = some (.slice B ys.length e) := keep_cell hb (by simp)
    have hRs := (BlkT.new (g := w.heap.size + 1) (w.alloc _) (.slice none 0 0) (.slice none 0 0) (by simp)).below hb
    have hw : Below w.heap.size w w1 := below_alloc (below_alloc (hb))
    clear hb
    have hr0 := hRs.c0
    have hr1 := hRs.c1
    have hf0 := hRs.free 0
    have hf1 := hRs.free 1
    go_wp2
    refine bodyPost_ret (v := .tuple #[.agg #[.slice none 0 0, .slice none 0 0], .bool false]) (by simp (maxDischargeDepth := 9) [results, Tryz.results22, go_sem, *]) rfl ⟨none, 0, none, 0, rfl, .inl ⟨rfl, rfl⟩, .inl ⟨rfl, rfl⟩, (fun _ _ e1 => by cases e1), ?_⟩
    (repeat (first | with_reducible exact Below.refl _ _ | with_reducible assumption | with_reducible refine Below.alloc' ?_ ?_ _ | with_reducible refine Below.setCell' ?_ ?_ _ | with_reducible refine Below.drewN' ?_ _ | with_reducible refine Below.drew ?_ | with_reducible refine Below.transA ?_ (by assumption) ?_ | omega | (focus (simp; done)) | (focus (simp; omega))))
  case true =>
    obtain ⟨r2, q2⟩ : ∃ r, (decide (0 ≤ d9)) = r := ⟨_, rfl⟩
    cases r2
    case false =>
      have hO : prIn xs ys d9 = false := by unfold prIn ; simp [q1, q2]
      have hV_prRP := prRP_no hO
      have hV_prRW := prRW_no hO
      have hV_prOk := prOk_no hO
      rw [hV_prRP]
      rw [hV_prRW]
      rw [hV_prOk]
      (try rw [hO])
      clear hO hV_prRP hV_prRW hV_prOk
      have HG1 := Lib.hid (fun W (h : IntS W A xs) (k : IntS W B ys) => isTree_any A B c e xs ys W h k _hx _hy hn hm)
      rw [q1] at HG1
      have dn : d9 < 0 := by have := of_decide_eq_false q2; omega
      have dn2 : decide (d9 < 0) = true := decide_eq_true dn
      clear q1 q2 _hx _hy 
      go_enter Tryz.func22, Tryz.ntmps22
      go_wp2_with fail
      refine (HG1.out _ ((h.alloc _).alloc _) ((k.alloc _).alloc _)).mono ?_
      rintro e1 w1 ⟨rfl, hb⟩
      have hx0 : w1.cell? ⟨w.heap.size, 0, none⟩ = some (.slice A xs.length c) := keep_cell hb (by simp)
      have hx1 : w1.cell? ⟨w.heap.size, 1, none⟩ = some (.slice B ys.length e) := keep_cell hb (by simp)
      have hRs := (BlkT.new (g := w.heap.size + 1) (w.alloc _) (.slice none 0 0) (.slice none 0 0) (by simp)).below hb
      have hw : Below w.heap.size w w1 := below_alloc (below_alloc (hb))
      clear hb
      have hr0 := hRs.c0
      have hr1 := hRs.c1
      have hf0 := hRs.free 0
      have hf1 := hRs.free 1
      go_wp2
      refine bodyPost_ret (v := .tuple #[.agg #[.slice none 0 0, .slice none 0 0], .bool false]) (by simp (maxDischargeDepth := 9) [results, Tryz.results22, go_sem, *]) rfl ⟨none, 0, none, 0, rfl, .inl ⟨rfl, rfl⟩, .inl ⟨rfl, rfl⟩, (fun _ _ e1 => by cases e1), ?_⟩
      (repeat (first | with_reducible exact Below.refl _ _ | with_reducible assumption | with_reducible refine Below.alloc' ?_ ?_ _ | with_reducible refine Below.setCell' ?_ ?_ _ | with_reducible refine Below.drewN' ?_ _ | with_reducible refine Below.drew ?_ | with_reducible refine Below.transA ?_ (by assumption) ?_ | omega | (focus (simp; done)) | (focus (simp; omega))))
    case true =>
      have hO : prIn xs ys d9 = true := by unfold prIn ; simp [q1, q2]
      have hV_prRP := prRP_yes hO
      have hV_prRW := prRW_yes hO
      have hV_prOk := prOk_yes hO
      rw [hV_prRP]
      rw [hV_prRW]
      rw [hV_prOk]
      (try rw [hO])
      clear hO hV_prRP hV_prRW hV_prOk
      have HG1 := Lib.hid (fun W (h : IntS W A xs) (k : IntS W B ys) => isTree_any A B c e xs ys W h k _hx _hy hn hm)
      rw [q1] at HG1
      have dn : ¬ (d9 < 0) := by have := of_decide_eq_true q2; omega
      have dn2 : decide (d9 < 0) = false := decide_eq_false dn
      have hgl := good_len q1
      have hn1 := hgl.1
      have hn24 : xs.length ≤ 24 := hgl.2.1
      have HYN : Hid (ys.length = xs.length) := hgl.2.2
      have HDp := Lib.hid (fun W (h : IntS W A xs) => depths_any A B c ys.length e xs W h hn1 (by omega) (good_iff.1 q1).2.1)
      have HSu := Lib.hid (fun W (h : IntS W A xs) (k : IntS W B ys) => sums_good q1 A B c e W h k)
      have HU := Lib.hid (good_upL q1)
      have hd0 := of_decide_eq_true q2
      have HK0 := Lib.hid (pr_root hn1 hd0)
      have HKp : Hid (∀ x, prKeep xs d9 x = decide (nth (dep xs xs.length) x ≤ d9)) := fun x => rfl
      have HWt : Hid (∀ x, prWt xs ys d9 x = if nth (dep xs xs.length) x = d9 then nth (sumsL xs ys) x else nth ys x) := fun x => rfl
      have HWq := Lib.hid (fun (x : Nat) (hx : x < xs.length) => pr_wt q1 d9 hx)
      have HP0 : Hid (prPar xs d9 0 = -1) := rfl
      have HPr := Lib.hid (fun (x p : Nat) (h1 : 1 ≤ x) (hx : x < xs.length) (hp : nth xs x = p) (hpx : p < x) (hk : prKeep xs d9 x = true) => pr_par h1 hx hp hpx hk)
      have HPl : Hid (∀ k, ((prP xs d9 k).length : Int) = prAt xs d9 k) := fun k => by unfold prP prAt; rw [selK_len]
      have HWl : Hid (∀ k, (prW xs ys d9 k).length = (prP xs d9 k).length) := fun k => by unfold prW prP; rw [selK_len, selK_len]
      have HPe : Hid (∀ k, (prP xs d9 k).length ≤ k) := fun k => selK_le _ _ k
      have HPy : Hid (∀ k, prKeep xs d9 k = true → prP xs d9 (k + 1) = prP xs d9 k ++ [prPar xs d9 k]) := fun k h => selK_yes h
      have HPn : Hid (∀ k, prKeep xs d9 k = false → prP xs d9 (k + 1) = prP xs d9 k) := fun k h => selK_no h
      have HWy : Hid (∀ k, prKeep xs d9 k = true → prW xs ys d9 (k + 1) = prW xs ys d9 k ++ [prWt xs ys d9 k]) := fun k h => selK_yes h
      have HWn : Hid (∀ k, prKeep xs d9 k = false → prW xs ys d9 (k + 1) = prW xs ys d9 k) := fun k h => selK_no h
      have HP00 : Hid (prP xs d9 0 = []) := rfl
      have HW00 : Hid (prW xs ys d9 0 = []) := rfl
      have HDL : Hid ((dep xs xs.length).length = xs.length) := dep_len xs xs.length
      have HSL : Hid ((sumsL xs ys).length = xs.length) := sums_len q1
      have HDL1 : Hid (1 ≤ (dep xs xs.length).length) := by have := HDL.out; show 1 ≤ _; omega
      have HSL1 : Hid (1 ≤ (sumsL xs ys).length) := by have := HSL.out; show 1 ≤ _; omega
      have HGd := Lib.hid (fun W (P' W' : Option Addr) (cp cw : Nat) (hP : IntS W P' (prP xs d9 xs.length)) (hW : IntS W W' (prW xs ys d9 xs.length)) => isTree_any P' W' cp cw (prP xs d9 xs.length) (prW xs ys d9 xs.length) W hP hW (prP_bd q1 d9) (prW_bd q1 d9) (by have := HPe.out xs.length; omega) (by have := HPe.out xs.length; have := HWl.out xs.length; omega))
      have HWi : Hid (∀ x, x < xs.length → (nth (dep xs xs.length) x = d9 ∨ noKid xs xs.length x = true → prWt xs ys d9 x = nth (sumsL xs ys) x) ∧ (¬ nth (dep xs xs.length) x = d9 → noKid xs xs.length x = false → prWt xs ys d9 x = 0)) := fun x hx => pr_wt q1 d9 hx
      have HEn := Lib.hid (fun W (h : IntS W A xs) => isEnd_any A B c ys.length e xs W h (by omega) (Lib.hid (fun y hy => by
        by_cases e0 : y = 0
        · subst e0; have := (good_iff.1 q1).1.2.2; omega
        · obtain ⟨p, hp, hpy⟩ := good_upL q1 y (by omega) hy
          rw [hp]; omega)))
      have HL0 := Lib.hid (prT_zero xs d9 xs.length)
      have HLy := Lib.hid (fun (k : Nat) (hk : k < xs.length) (h : prKeep xs d9 k = true) => prT_yes (xs := xs) hk h)
      have HLn := Lib.hid (fun (k : Nat) (h : prKeep xs d9 k = false) => prT_no (xs := xs) (n := xs.length) h)
      have HLg := Lib.hid (fun (k j : Nat) (hj : j < xs.length) => prT_nth (xs := xs) (d := d9) (k := k) hj)
      have HLl := Lib.hid (fun k => prT_len xs d9 xs.length k)
      obtain ⟨r, hr⟩ : ∃ r, good (prP xs d9 xs.length) (prW xs ys d9 xs.length) = r := ⟨_, rfl⟩
      rw [hr] at HGd ⊢
      clear hr hgl hd0
      generalize dep xs xs.length = DP at *
      generalize sumsL xs ys = SU at *
      generalize prP xs d9 = PF at *
      generalize prW xs ys d9 = WF at *
      generalize prKeep xs d9 = KP at *
      generalize prPar xs d9 = PR at *
      generalize prWt xs ys d9 = WT at *
      generalize noKid xs xs.length = EN at *
      generalize prT xs d9 xs.length = PL at *
      generalize prAt xs d9 = AT at *
      clear q1 q2 _hx _hy 
      go_enter Tryz.func22, Tryz.ntmps22
      go_wp2_with fail
      refine (HG1.out _ ((h.alloc _).alloc _) ((k.alloc _).alloc _)).mono ?_
      rintro e1 w1 ⟨rfl, hb⟩
      have hx0 : w1.cell? ⟨w.heap.size, 0, none⟩ = some (.slice A xs.length c) := keep_cell hb (by simp)
      have hx1 : w1.cell? ⟨w.heap.size, 1, none⟩ = some (.slice B ys.length e) := keep_cell hb (by simp)
      have hRs := (BlkT.new (g := w.heap.size + 1) (w.alloc _) (.slice none 0 0) (.slice none 0 0) (by simp)).below hb
      have hw : Below w.heap.size w w1 := below_alloc (below_alloc (hb))
      clear hb
      clear HG1
      obtain ⟨i0, hi, hz0, hz1, hz2⟩ := info_parts info_int
      go_upto_region 3 with (fail)
      refine wp_region_held_drew (S := fun w' => w'.cell? ⟨w.heap.size, 0, none⟩ = some (.slice A xs.length c) ∧ w'.cell? ⟨w.heap.size, 1, none⟩ = some (.slice B ys.length e) ∧ Below w.heap.size w w') (by kernel_rfl) ⟨hx0, hx1, hw.drew⟩ (fun hHeld => ?_)
      refine wpAnyH_take (i := 0) (oi := ?ooi1) (v := ?vvi1) ?hii1 (by kernel_rfl) (by kernel_rfl) (by kernel_rfl) ?hqi1 (Or.inl ⟨?hgi1, ?hyi1⟩) (by assumption) ?resti1
      case hii1 => simp only [List.getElem?_toArray, List.getElem?_cons_zero]; rfl
      case hqi1 => exact fun _ _ _ h => h
      case hgi1 => rfl
      case hyi1 =>
        intro wq hSw
        obtain ⟨hx0, hx1, hw⟩ := hSw
        go_simp
        (try with_reducible rfl)
      (try simp only [Act.put, List.setIfInBounds_toArray, List.set_cons_zero, List.set_cons_succ])
      refine wpAnyH_take (i := 2) (oi := ?ooi2) (v := ?vvi2) ?hii2 (by kernel_rfl) (by kernel_rfl) (by kernel_rfl) ?hqi2 (Or.inl ⟨?hgi2, ?hyi2⟩) (by assumption) ?resti2
      case hii2 => simp only [List.getElem?_toArray, List.getElem?_cons_zero, List.getElem?_cons_succ]; rfl
      case hqi2 => exact fun _ _ _ h => h
      case hgi2 => rfl
      case hyi2 =>
        intro wq hSw
        obtain ⟨hx0, hx1, hw⟩ := hSw
        go_simp
        (try with_reducible rfl)
      (try simp only [Act.put, List.setIfInBounds_toArray, List.set_cons_zero, List.set_cons_succ])
      refine wpAnyH_take (i := 4) (oi := ?ooi3) (v := ?vvi3) ?hii3 (by kernel_rfl) (by kernel_rfl) (by kernel_rfl) ?hqi3 (Or.inl ⟨?hgi3, ?hyi3⟩) (by assumption) ?resti3
      case hii3 => simp only [List.getElem?_toArray, List.getElem?_cons_zero, List.getElem?_cons_succ]; rfl
      case hqi3 => exact fun _ _ _ h => h
      case hgi3 => rfl
      case hyi3 =>
        intro wq hSw
        obtain ⟨hx0, hx1, hw⟩ := hSw
        go_simp
        (try with_reducible rfl)
      (try simp only [Act.put, List.setIfInBounds_toArray, List.set_cons_zero, List.set_cons_succ])
      refine wpAnyH_ready (rs := [1]) (by kernel_rfl) (by simp) ?_
      refine AllReadyH.cons (i := 1) (o := ?ooi4) ?hoi4 (fun K9 hK9 => ?hstepi4) AllReadyH.nil
      case hoi4 => simp only [List.getElem?_toArray, List.getElem?_cons_zero, List.getElem?_cons_succ]; rfl
      go_simp
      refine (HDp.out _ (h.below hw.drew)).mono ?_
      rintro e1 wzi4 ⟨AD, cD, rfl, hoD, hb⟩
      obtain ⟨gD, rfl, hgD, hrD⟩ := hoD.pos HDL1.out
      clear hoD
      replace hb : Below w1.heap.size w1 wzi4 := ⟨hb.os, hb.tape, hb.output, hb.size, hb.block⟩
      replace hx0 := keep_cell hb hx0
      replace hx1 := keep_cell hb hx1
      replace hRs := hRs.below hb
      replace hw := keep_below hb hw
      clear hHeld
      go_wp2_with fail
      refine hK9.out _ _ ⟨hx0, hx1, hw⟩ (fun hHeld => ?_)
      clear hK9 K9 hb
      (try simp only [Act.put, List.setIfInBounds_toArray, List.set_cons_zero, List.set_cons_succ])
      refine wpAnyH_ready (rs := [3]) (by kernel_rfl) (by simp) ?_
      refine AllReadyH.cons (i := 3) (o := ?ooi5) ?hoi5 (fun K9 hK9 => ?hstepi5) AllReadyH.nil
      case hoi5 => simp only [List.getElem?_toArray, List.getElem?_cons_zero, List.getElem?_cons_succ]; rfl
      go_simp
      refine (HSu.out _ (h.below hw) (k.below hw)).mono ?_
      rintro e1 wzi5 ⟨AS, cS, rfl, hoS, hb⟩
      obtain ⟨gS, rfl, hgS, hrS⟩ := hoS.pos HSL1.out
      clear hoS
      replace hx0 := keep_cell hb hx0
      replace hx1 := keep_cell hb hx1
      replace hRs := hRs.below hb
      replace hrD := hrD.below hb
      replace hw := keep_below hb hw
      clear hHeld
      go_wp2_with fail
      refine hK9.out _ _ ⟨hx0, hx1, hw⟩ (fun hHeld => ?_)
      clear hK9 K9 hb
      (try simp only [Act.put, List.setIfInBounds_toArray, List.set_cons_zero, List.set_cons_succ])
      refine wpAnyH_ready (rs := [5]) (by kernel_rfl) (by simp) ?_
      refine AllReadyH.cons (i := 5) (o := ?ooi6) ?hoi6 (fun K9 hK9 => ?hstepi6) AllReadyH.nil
      case hoi6 => simp only [List.getElem?_toArray, List.getElem?_cons_zero, List.getElem?_cons_succ]; rfl
      go_simp
      refine (HEn.out _ (h.below hw)).mono ?_
      rintro e1 wzi6 ⟨gE, rfl, hrE, hgE, hb⟩
      replace hx0 := keep_cell hb hx0
      replace hx1 := keep_cell hb hx1
      replace hRs := hRs.below hb
      replace hrD := hrD.below hb
      replace hrS := hrS.below hb
      replace hw := keep_below hb hw
      clear hHeld
      go_wp2_with fail
      refine hK9.out _ _ ⟨hx0, hx1, hw⟩ (fun hHeld => ?_)
      clear hK9 K9 hb
      (try simp only [Act.put, List.setIfInBounds_toArray, List.set_cons_zero, List.set_cons_succ])
      refine wpAnyH_take (i := 6) (oi := ?ooi7) (v := ?vvi7) ?hii7 (by kernel_rfl) (by kernel_rfl) (by kernel_rfl) ?hqi7 (Or.inl ⟨?hgi7, ?hyi7⟩) (by assumption) ?resti7
      case hii7 => simp only [List.getElem?_toArray, List.getElem?_cons_zero, List.getElem?_cons_succ]; rfl
      case hqi7 => exact fun _ _ _ h => h
      case hgi7 => rfl
      case hyi7 =>
        intro wq hSw
        obtain ⟨hx0, hx1, hw⟩ := hSw
        go_simp
        (try with_reducible rfl)
      (try simp only [Act.put, List.setIfInBounds_toArray, List.set_cons_zero, List.set_cons_succ])
      refine wpAnyH_take (i := 7) (oi := ?ooi8) (v := ?vvi8) ?hii8 (by kernel_rfl) (by kernel_rfl) (by kernel_rfl) ?hqi8 (Or.inl ⟨?hgi8, ?hyi8⟩) (by assumption) ?resti8
      case hii8 => simp only [List.getElem?_toArray, List.getElem?_cons_zero, List.getElem?_cons_succ]; rfl
      case hqi8 => exact fun _ _ _ h => h
      case hgi8 => rfl
      case hyi8 =>
        intro wq hSw
        obtain ⟨hx0, hx1, hw⟩ := hSw
        go_simp
        (try with_reducible rfl)
      (try simp only [Act.put, List.setIfInBounds_toArray, List.set_cons_zero, List.set_cons_succ])
      refine wpAnyH_take (i := 8) (oi := ?ooi9) (v := ?vvi9) ?hii9 (by kernel_rfl) (by kernel_rfl) (by kernel_rfl) ?hqi9 (Or.inl ⟨?hgi9, ?hyi9⟩) (by assumption) ?resti9
      case hii9 => simp only [List.getElem?_toArray, List.getElem?_cons_zero, List.getElem?_cons_succ]; rfl
      case hqi9 => exact fun _ _ _ h => h
      case hgi9 => rfl
      case hyi9 =>
        intro wq hSw
        obtain ⟨hx0, hx1, hw⟩ := hSw
        go_simp
        (try with_reducible rfl)
      (try simp only [Act.put, List.setIfInBounds_toArray, List.set_cons_zero, List.set_cons_succ])
      clear hHeld
      refine wpAnyH_done (by kernel_rfl) ?_ _
      go_upto_region 4 with (fail)
      rw [HDL.out, HSL.out]
      generalize wzi6 = wb at *
      have hmk := run_makeI xs.length (by omega)
      have hex : Ex wb wb := ⟨Below.refl _ _⟩
      obtain ⟨nB, hnB⟩ : ∃ n, n = wb.heap.size := ⟨_, rfl⟩
      have hwb : w.heap.size ≤ nB := by rw [hnB]; exact hw.size
      go_cut [9, 10] (fun s9 s10 wy => ∃ wx : World, wx = wy ∧ ∃ gT gL : Nat, s9 = .pointer (some ⟨gT, 0, none⟩) ∧ s10 = .slice (some ⟨gL, 0, none⟩) xs.length xs.length ∧ gT ≠ gL ∧ nB ≤ gT ∧ nB ≤ gL ∧ BlkT wx gT (.slice none 0 0) (.slice none 0 0) ∧ RowX wx gL (List.replicate xs.length 0) ∧ Ex wb wx ∧ Below w.heap.size w wx)
      case first =>
        refine wp_region_held_drew (S := fun w' => Below w.heap.size w w') (by kernel_rfl) (hw.drew) (fun hHeld => ?_)
        refine wpAnyH_take (i := 0) (oi := ?ooj1) (v := ?vvj1) ?hij1 (by kernel_rfl) (by kernel_rfl) (by kernel_rfl) ?hqj1 (Or.inl ⟨?hgj1, ?hyj1⟩) (by assumption) ?restj1
        case hij1 => simp only [List.getElem?_toArray, List.getElem?_cons_zero]; rfl
        case hqj1 => exact fun _ _ _ h => h
        case hgj1 => rfl
        case hyj1 =>
          intro wq hSw
          go_simp
          (try with_reducible rfl)
        (try simp only [Act.put, List.setIfInBounds_toArray, List.set_cons_zero, List.set_cons_succ])
        refine wpAnyH_take (i := 1) (oi := ?ooj2) (v := ?vvj2) ?hij2 (by kernel_rfl) (by kernel_rfl) (by kernel_rfl) ?hqj2 (Or.inl ⟨?hgj2, ?hyj2⟩) (by assumption) ?restj2
        case hij2 => simp only [List.getElem?_toArray, List.getElem?_cons_zero, List.getElem?_cons_succ]; rfl
        case hqj2 => exact fun _ _ _ h => h
        case hgj2 => rfl
        case hyj2 =>
          intro wq hSw
          go_simp
          (try with_reducible rfl)
        (try simp only [Act.put, List.setIfInBounds_toArray, List.set_cons_zero, List.set_cons_succ])
        refine wpAnyH_take (i := 2) (oi := ?ooj3) (v := ?vvj3) ?hij3 (by kernel_rfl) (by kernel_rfl) (by kernel_rfl) ?hqj3 (Or.inl ⟨?hgj3, ?hyj3⟩) (by assumption) ?restj3
        case hij3 => simp only [List.getElem?_toArray, List.getElem?_cons_zero, List.getElem?_cons_succ]; rfl
        case hqj3 => exact fun _ _ _ h => h
        case hgj3 => rfl
        case hyj3 =>
          intro wq hSw
          go_simp
          (try with_reducible rfl)
        (try simp only [Act.put, List.setIfInBounds_toArray, List.set_cons_zero, List.set_cons_succ])
        refine wpAnyH_ready (rs := [3, 4]) (by kernel_rfl) (by simp) ?_
        refine AllReadyH.cons (i := 3) (o := ?ooj4) ?hoj4 (fun K9 hK9 => ?hstepj4) ?morej4
        case hoj4 => simp only [List.getElem?_toArray, List.getElem?_cons_zero, List.getElem?_cons_succ]; rfl
        case hstepj4 =>
          go_simp
          clear hHeld
          refine hK9.out _ _ (Below.drew (keep_below_alloc hw _)) (fun hHeld => ?_)
          clear hK9 K9
          (try simp only [Act.put, List.setIfInBounds_toArray, List.set_cons_zero, List.set_cons_succ])
          refine wpAnyH_name hHeld (fun waj4 hHa hwz => ?_)
          have hbA : Below wb.heap.size wb waj4 := by rw [hwz]; exact Below.drew ((Below.refl wb.heap.size wb).alloc (Nat.le_refl _) _)
          have hL : RowX waj4 wb.heap.size (List.replicate xs.length 0) := by rw [hwz]; exact RowX.zero _ _ rfl
          have hbL : nB ≤ wb.heap.size := by rw [hnB]; exact hex.b.size
          replace hex := hex.below hbA
          replace hw := keep_below hbA hw
          generalize wb.heap.size = gL at hL hbL ⊢
          clear hHeld hbA hwz
          have hHeld := hHa
          clear hHa
          refine wpAnyH_ready (rs := [4]) (by kernel_rfl) (by simp) ?_
          refine AllReadyH.cons (i := 4) (o := ?ooj5) ?hoj5 (fun K9 hK9 => ?hstepj5) AllReadyH.nil
          case hoj5 => simp only [List.getElem?_toArray, List.getElem?_cons_zero, List.getElem?_cons_succ]; rfl
          go_simp
          clear hHeld
          refine hK9.out _ _ (keep_below_alloc hw _) (fun hHeld => ?_)
          clear hK9 K9
          (try simp only [Act.put, List.setIfInBounds_toArray, List.set_cons_zero, List.set_cons_succ])
          refine wpAnyH_name hHeld (fun waj5 hHa hwz => ?_)
          have hbA : Below waj4.heap.size waj4 waj5 := by rw [hwz]; exact (Below.refl waj4.heap.size waj4).alloc (Nat.le_refl _) _
          have hT : BlkT waj5 waj4.heap.size (.slice none 0 0) (.slice none 0 0) := by rw [hwz]; exact BlkT.new _ _ _ rfl
          have hbT : nB ≤ waj4.heap.size := by rw [hnB]; exact hex.b.size
          have hTL : waj4.heap.size ≠ gL := by have := hL.lt; omega
          replace hex := hex.below hbA
          replace hL := hL.below hbA
          replace hw := keep_below hbA hw
          generalize waj4.heap.size = gT at hT hbT hTL ⊢
          clear hHeld hbA hwz
          have hHeld := hHa
          clear hHa
          refine wpAnyH_ready (rs := [5]) (by kernel_rfl) (by simp) ?_
          refine AllReadyH.cons (i := 5) (o := ?ooj6) ?hoj6 (fun K9 hK9 => ?hstepj6) AllReadyH.nil
          case hoj6 => simp only [List.getElem?_toArray, List.getElem?_cons_zero, List.getElem?_cons_succ]; rfl
          have tt0 := hT.c0
          have tt1 := hT.c1
          have tf0 := hT.free 0
          have tf1 := hT.free 1
          go_simp
          clear hHeld
          refine hK9.out _ _ (Below.setCell' (p := ⟨gT, 1, none⟩) (by first | omega | (simp; done) | (simp; omega)) (Below.setCell' (p := ⟨gT, 0, none⟩) (by first | omega | (simp; done) | (simp; omega)) hw _) _) (fun hHeld => ?_)
          clear hK9 K9
          (try simp only [Act.put, List.setIfInBounds_toArray, List.set_cons_zero, List.set_cons_succ])
          refine wpAnyH_name hHeld (fun wyj6 hHa hwz => ?_)
          replace hw : Below w.heap.size w wyj6 := by rw [hwz]; exact Below.setCell' (p := ⟨gT, 1, none⟩) (by first | omega | (simp; done) | (simp; omega)) (Below.setCell' (p := ⟨gT, 0, none⟩) (by first | omega | (simp; done) | (simp; omega)) hw _) _
          replace hex : Ex wb wyj6 := by rw [hwz]; exact (hex.set (by omega) _ _).set (by omega) _ _
          replace hT : BlkT wyj6 gT (.slice none 0 0) (.slice none 0 0) := by rw [hwz]; exact (hT.set0 _).set1 _
          replace hL : RowX wyj6 gL (List.replicate xs.length 0) := by rw [hwz]; exact ((Below.heap_setCell _ _ _ _ hTL.symm).trans (Below.heap_setCell _ _ _ _ hTL.symm)).trans hL
          clear tt0 tt1 tf0 tf1
          clear hHeld hwz
          have hHeld := hHa
          clear hHa
          refine wpAnyH_take (i := 6) (oi := ?ooj7) (v := ?vvj7) ?hij7 (by kernel_rfl) (by kernel_rfl) (by kernel_rfl) ?hqj7 (Or.inl ⟨?hgj7, ?hyj7⟩) (by assumption) ?restj7
          case hij7 => simp only [List.getElem?_toArray, List.getElem?_cons_zero, List.getElem?_cons_succ]; rfl
          case hqj7 => exact fun _ _ _ h => h
          case hgj7 => rfl
          case hyj7 =>
            intro wq hSw
            go_simp
            (try with_reducible rfl)
          (try simp only [Act.put, List.setIfInBounds_toArray, List.set_cons_zero, List.set_cons_succ])
          clear hHeld
          refine wpAnyH_done (by kernel_rfl) ?_ _
          go_wp2_with fail
          go_meet
          go_split_ands
          exact ⟨_, rfl, _, _, rfl, rfl, hTL, hbT, hbL, hT, hL, hex, hw⟩
        refine AllReadyH.cons (i := 4) (o := ?ooj8) ?hoj8 (fun K9 hK9 => ?hstepj8) ?morej8
        case hoj8 => simp only [List.getElem?_toArray, List.getElem?_cons_zero, List.getElem?_cons_succ]; rfl
        case hstepj8 =>
          go_simp
          clear hHeld
          refine hK9.out _ _ (Below.drew (keep_below_alloc hw _)) (fun hHeld => ?_)
          clear hK9 K9
          (try simp only [Act.put, List.setIfInBounds_toArray, List.set_cons_zero, List.set_cons_succ])
          refine wpAnyH_name hHeld (fun waj8 hHa hwz => ?_)
          have hbA : Below wb.heap.size wb waj8 := by rw [hwz]; exact Below.drew ((Below.refl wb.heap.size wb).alloc (Nat.le_refl _) _)
          have hT : BlkT waj8 wb.heap.size (.slice none 0 0) (.slice none 0 0) := by rw [hwz]; exact BlkT.new _ _ _ rfl
          have hbT : nB ≤ wb.heap.size := by rw [hnB]; exact hex.b.size
          replace hex := hex.below hbA
          replace hw := keep_below hbA hw
          generalize wb.heap.size = gT at hT hbT ⊢
          clear hHeld hbA hwz
          have hHeld := hHa
          clear hHa
          refine wpAnyH_ready (rs := [3, 5]) (by kernel_rfl) (by simp) ?_
          refine AllReadyH.cons (i := 3) (o := ?ooj9) ?hoj9 (fun K9 hK9 => ?hstepj9) ?morej9
          case hoj9 => simp only [List.getElem?_toArray, List.getElem?_cons_zero, List.getElem?_cons_succ]; rfl
          case hstepj9 =>
            go_simp
            clear hHeld
            refine hK9.out _ _ (keep_below_alloc hw _) (fun hHeld => ?_)
            clear hK9 K9
            (try simp only [Act.put, List.setIfInBounds_toArray, List.set_cons_zero, List.set_cons_succ])
            refine wpAnyH_name hHeld (fun waj9 hHa hwz => ?_)
            have hbA : Below waj8.heap.size waj8 waj9 := by rw [hwz]; exact (Below.refl waj8.heap.size waj8).alloc (Nat.le_refl _) _
            have hL : RowX waj9 waj8.heap.size (List.replicate xs.length 0) := by rw [hwz]; exact RowX.zero _ _ rfl
            have hbL : nB ≤ waj8.heap.size := by rw [hnB]; exact hex.b.size
            have hTL : gT ≠ waj8.heap.size := by have := hT.lt; omega
            replace hex := hex.below hbA
            replace hT := hT.below hbA
            replace hw := keep_below hbA hw
            generalize waj8.heap.size = gL at hL hbL hTL ⊢
            clear hHeld hbA hwz
            have hHeld := hHa
            clear hHa
            refine wpAnyH_ready (rs := [5]) (by kernel_rfl) (by simp) ?_
            refine AllReadyH.cons (i := 5) (o := ?ooj10) ?hoj10 (fun K9 hK9 => ?hstepj10) AllReadyH.nil
            case hoj10 => simp only [List.getElem?_toArray, List.getElem?_cons_zero, List.getElem?_cons_succ]; rfl
            have tt0 := hT.c0
            have tt1 := hT.c1
            have tf0 := hT.free 0
            have tf1 := hT.free 1
            go_simp
            clear hHeld
            refine hK9.out _ _ (Below.setCell' (p := ⟨gT, 1, none⟩) (by first | omega | (simp; done) | (simp; omega)) (Below.setCell' (p := ⟨gT, 0, none⟩) (by first | omega | (simp; done) | (simp; omega)) hw _) _) (fun hHeld => ?_)
            clear hK9 K9
            (try simp only [Act.put, List.setIfInBounds_toArray, List.set_cons_zero, List.set_cons_succ])
            refine wpAnyH_name hHeld (fun wyj10 hHa hwz => ?_)
            replace hw : Below w.heap.size w wyj10 := by rw [hwz]; exact Below.setCell' (p := ⟨gT, 1, none⟩) (by first | omega | (simp; done) | (simp; omega)) (Below.setCell' (p := ⟨gT, 0, none⟩) (by first | omega | (simp; done) | (simp; omega)) hw _) _
            replace hex : Ex wb wyj10 := by rw [hwz]; exact (hex.set (by omega) _ _).set (by omega) _ _
            replace hT : BlkT wyj10 gT (.slice none 0 0) (.slice none 0 0) := by rw [hwz]; exact (hT.set0 _).set1 _
            replace hL : RowX wyj10 gL (List.replicate xs.length 0) := by rw [hwz]; exact ((Below.heap_setCell _ _ _ _ hTL.symm).trans (Below.heap_setCell _ _ _ _ hTL.symm)).trans hL
            clear tt0 tt1 tf0 tf1
            clear hHeld hwz
            have hHeld := hHa
            clear hHa
            refine wpAnyH_take (i := 6) (oi := ?ooj11) (v := ?vvj11) ?hij11 (by kernel_rfl) (by kernel_rfl) (by kernel_rfl) ?hqj11 (Or.inl ⟨?hgj11, ?hyj11⟩) (by assumption) ?restj11
            case hij11 => simp only [List.getElem?_toArray, List.getElem?_cons_zero, List.getElem?_cons_succ]; rfl
            case hqj11 => exact fun _ _ _ h => h
            case hgj11 => rfl
            case hyj11 =>
              intro wq hSw
              go_simp
              (try with_reducible rfl)
            (try simp only [Act.put, List.setIfInBounds_toArray, List.set_cons_zero, List.set_cons_succ])
            clear hHeld
            refine wpAnyH_done (by kernel_rfl) ?_ _
            go_wp2_with fail
            go_meet
            go_split_ands
            exact ⟨_, rfl, _, _, rfl, rfl, hTL, hbT, hbL, hT, hL, hex, hw⟩
          refine AllReadyH.cons (i := 5) (o := ?ooj12) ?hoj12 (fun K9 hK9 => ?hstepj12) ?morej12
          case hoj12 => simp only [List.getElem?_toArray, List.getElem?_cons_zero, List.getElem?_cons_succ]; rfl
          case hstepj12 =>
            have tt0 := hT.c0
            have tt1 := hT.c1
            have tf0 := hT.free 0
            have tf1 := hT.free 1
            go_simp
            clear hHeld
            refine hK9.out _ _ (Below.setCell' (p := ⟨gT, 1, none⟩) (by first | omega | (simp; done) | (simp; omega)) (Below.setCell' (p := ⟨gT, 0, none⟩) (by first | omega | (simp; done) | (simp; omega)) hw _) _) (fun hHeld => ?_)
            clear hK9 K9
            (try simp only [Act.put, List.setIfInBounds_toArray, List.set_cons_zero, List.set_cons_succ])
            refine wpAnyH_name hHeld (fun wyj12 hHa hwz => ?_)
            replace hw : Below w.heap.size w wyj12 := by rw [hwz]; exact Below.setCell' (p := ⟨gT, 1, none⟩) (by first | omega | (simp; done) | (simp; omega)) (Below.setCell' (p := ⟨gT, 0, none⟩) (by first | omega | (simp; done) | (simp; omega)) hw _) _
            replace hex : Ex wb wyj12 := by rw [hwz]; exact (hex.set (by omega) _ _).set (by omega) _ _
            replace hT : BlkT wyj12 gT (.slice none 0 0) (.slice none 0 0) := by rw [hwz]; exact (hT.set0 _).set1 _
            clear tt0 tt1 tf0 tf1
            clear hHeld hwz
            have hHeld := hHa
            clear hHa
            refine wpAnyH_ready (rs := [3]) (by kernel_rfl) (by simp) ?_
            refine AllReadyH.cons (i := 3) (o := ?ooj13) ?hoj13 (fun K9 hK9 => ?hstepj13) AllReadyH.nil
            case hoj13 => simp only [List.getElem?_toArray, List.getElem?_cons_zero, List.getElem?_cons_succ]; rfl
            go_simp
            clear hHeld
            refine hK9.out _ _ (keep_below_alloc hw _) (fun hHeld => ?_)
            clear hK9 K9
            (try simp only [Act.put, List.setIfInBounds_toArray, List.set_cons_zero, List.set_cons_succ])
            refine wpAnyH_name hHeld (fun waj13 hHa hwz => ?_)
            have hbA : Below wyj12.heap.size wyj12 waj13 := by rw [hwz]; exact (Below.refl wyj12.heap.size wyj12).alloc (Nat.le_refl _) _
            have hL : RowX waj13 wyj12.heap.size (List.replicate xs.length 0) := by rw [hwz]; exact RowX.zero _ _ rfl
            have hbL : nB ≤ wyj12.heap.size := by rw [hnB]; exact hex.b.size
            have hTL : gT ≠ wyj12.heap.size := by have := hT.lt; omega
            replace hex := hex.below hbA
            replace hT := hT.below hbA
            replace hw := keep_below hbA hw
            generalize wyj12.heap.size = gL at hL hbL hTL ⊢
            clear hHeld hbA hwz
            have hHeld := hHa
            clear hHa
            refine wpAnyH_take (i := 6) (oi := ?ooj14) (v := ?vvj14) ?hij14 (by kernel_rfl) (by kernel_rfl) (by kernel_rfl) ?hqj14 (Or.inl ⟨?hgj14, ?hyj14⟩) (by assumption) ?restj14
            case hij14 => simp only [List.getElem?_toArray, List.getElem?_cons_zero, List.getElem?_cons_succ]; rfl
            case hqj14 => exact fun _ _ _ h => h
            case hgj14 => rfl
            case hyj14 =>
              intro wq hSw
              go_simp
              (try with_reducible rfl)
            (try simp only [Act.put, List.setIfInBounds_toArray, List.set_cons_zero, List.set_cons_succ])
            clear hHeld
            refine wpAnyH_done (by kernel_rfl) ?_ _
            go_wp2_with fail
            go_meet
            go_split_ands
            exact ⟨_, rfl, _, _, rfl, rfl, hTL, hbT, hbL, hT, hL, hex, hw⟩
          exact AllReadyH.nil
        exact AllReadyH.nil
      clear hw hex
      obtain ⟨wx, rfl, gT, gL, rfl, rfl, hTL, hbT, hbL, hT, hL, hex, hw⟩ := hcut
      have hlD := hrD.lt
      have hlS := hrS.lt
      have hlE := hrE.lt
      have hlR := hRs.lt
      have hTx := hT.lt
      have hLx := hL.lt
      have hwT : w.heap.size ≤ gT := by omega
      have hwL : w.heap.size ≤ gL := by omega
      have e1T : gD ≠ gT := by omega
      have e1L : gD ≠ gL := by omega
      have e2T : gS ≠ gT := by omega
      have e2L : gS ≠ gL := by omega
      have e3T : gE ≠ gT := by omega
      have e3L : gE ≠ gL := by omega
      have e4T : w.heap.size + 1 ≠ gT := by omega
      have e4L : w.heap.size + 1 ≠ gL := by omega
      have e5T : w.heap.size ≠ gT := by omega
      have e5L : w.heap.size ≠ gL := by omega
      replace hrD := hrD.below hex.b
      replace hrS := hrS.below hex.b
      replace hrE := hrE.below hex.b
      replace hRs := hRs.below hex.b
      replace hx0 := keep_cell hex.b hx0
      replace hx1 := keep_cell hex.b hx1
      have hwle := hw.size
      have h2 : Two wx wx.heap.size gT (.slice none 0 0) (.slice none 0 0) 0 0 [] [] := ⟨hT, own_none2 _ _, own_none2 _ _, by simp [Value.ownBlock], by simp [Value.ownBlock], by simp [Value.ownBlock]⟩
      clear hex hnB hwb hlD hlS hlE hlR hT hbT hbL hTx
      go_wp2
      go_loopw [11, 12, 13, 14, 35] (fun _ _ _ _ i wr => ∃ (i9 : Nat) (va vb : Value), i9 ≤ xs.length ∧ i = .int .i64 (i9 : Int) ∧ Two wr wx.heap.size gT va vb (PF i9).length (WF i9).length (PF i9) (WF i9) ∧ RowX wr gL (PL i9) ∧ Kept2 wx wr gT gL) (fun _ _ _ _ i _ => xs.length - (intOf i).toNat)
      case atStart => exact ⟨0, _, _, Nat.zero_le _, rfl, by rw [HP00.out, HW00.out]; exact h2, by rw [HL0.out]; exact hL, Kept2.refl _ _ _⟩
      clear h2 hL
      obtain ⟨i9, va, vb, hi9, rfl, h2, hL, hkb⟩ := hrel
      have hrD' := hrD.of_block (hkb.block _ hrD.lt e1T e1L)
      have hrS' := hrS.of_block (hkb.block _ hrS.lt e2T e2L)
      have hrE' : RowB wr gE xs.length EN := (hkb.block _ hrE.lt e3T e3L).trans hrE
      have hRs' : BlkT wr (w.heap.size + 1) (.slice none 0 0) (.slice none 0 0) := (hkb.block _ hRs.lt e4T e4L).trans hRs
      have hx0' := hkb.cell hx0 e5T e5L
      have hx1' := hkb.cell hx1 e5T e5L
      have hwr := hkb.under hw hwT hwL
      have hpe := HPe.out i9
      have hwf : (WF i9).length ≤ i9 := by have := HWl.out i9; omega
      by_cases hlt : i9 < xs.length
      case neg =>
        have hie : i9 = xs.length := by omega
        subst hie
        obtain ⟨A1, c1, A2, c2, rfl, rfl, hO1, hO2, hap, -, -⟩ := h2.forms
        have hlR := hRs.lt
        have hbl := h2.blk
        have t0 := hbl.c0
        have t1 := hbl.c1
        have hG := HGd.out wr A1 A2 c1 c2 hO1.ints hO2.ints
        clear h2 hpe hwf hlt hrD' hrS' hrE' hx0' hx1' hL hkb
        go_wp2_with fail
        refine hG.mono ?_
        rintro e5 w5 ⟨rfl, hb5⟩
        replace hRs' := hRs'.below hb5
        replace hwr := keep_below hb5 hwr
        replace hO1 := hO1.below hb5
        replace hO2 := hO2.below hb5
        replace hbl := hbl.below hb5
        clear hb5 t0 t1 hG
        have t0 := hbl.c0
        have t1 := hbl.c1
        have hr0 := hRs'.c0
        have hr1 := hRs'.c1
        have hf0 := hRs'.free 0
        have hf1 := hRs'.free 1
        cases r with
        | false =>
          clear t0 t1
          go_wp2
          refine bodyPost_ret (v := .tuple #[.agg #[.slice none 0 0, .slice none 0 0], .bool false]) (by simp (maxDischargeDepth := 9) [results, Tryz.results22, go_sem, *]) rfl ⟨none, 0, none, 0, rfl, .inl ⟨rfl, rfl⟩, .inl ⟨rfl, rfl⟩, (fun _ _ e1 => by cases e1), ?_⟩
          (repeat (first | with_reducible exact Below.refl _ _ | with_reducible assumption | with_reducible refine Below.alloc' ?_ ?_ _ | with_reducible refine Below.setCell' ?_ ?_ _ | with_reducible refine Below.drewN' ?_ _ | with_reducible refine Below.drew ?_ | with_reducible refine Below.transA ?_ (by assumption) ?_ | omega | (focus (simp; done)) | (focus (simp; omega))))
        | true =>
          have hkb := ((KeptBut.refl2 w5 (w.heap.size + 1)).setg 0 (.slice A1 (PF xs.length).length c1)).setg 1 (.slice A2 (WF xs.length).length c2)
          have hO1' := hkb.own hO1 (by omega) (by omega)
          have hO2' := hkb.own hO2 (by omega) (by omega)
          clear hkb hO1 hO2
          go_wp2
          refine bodyPost_ret (v := .tuple #[.agg #[.slice A1 (PF xs.length).length c1, .slice A2 (WF xs.length).length c2], .bool true]) (by simp (maxDischargeDepth := 9) [results, Tryz.results22, go_sem, *]) rfl ⟨A1, c1, A2, c2, rfl, hO1'.mono hwle, hO2'.mono hwle, hap, ?_⟩
          (repeat (first | with_reducible exact Below.refl _ _ | with_reducible assumption | with_reducible refine Below.alloc' ?_ ?_ _ | with_reducible refine Below.setCell' ?_ ?_ _ | with_reducible refine Below.drewN' ?_ _ | with_reducible refine Below.drew ?_ | with_reducible refine Below.transA ?_ (by assumption) ?_ | omega | (focus (simp; done)) | (focus (simp; omega))))

      have i0' : (0 : Int) ≤ (i9 : Int) := by omega
      have i1 : (i9 : Int) < (xs.length : Int) := by omega
      have hdl := HDL.out
      have hsl := HSL.out
      have hcD := hrD'.cell (j := i9) (by omega)
      have hcS := hrS'.cell (j := i9) (by omega)
      have hcE := hrE'.cell hlt
      clear hdl hsl hrD' hrS' hrE' hRs'
      by_cases hkd : nth DP i9 ≤ d9
      case neg =>
        have hkp : KP i9 = false := by rw [HKp.out]; exact decide_eq_false hkd
        have i3 : d9 < nth DP i9 := by omega
        have hn1 := HPn.out _ hkp
        have hn2 := HWn.out _ hkp
        have hn3 := HLn.out _ hkp
        rw [← hn1, ← hn2] at h2
        rw [← hn3] at hL
        clear hkp hkd hn1 hn2 hn3 hcS hcE
        go_wp2
        go_roundw
        case rel => exact ⟨i9 + 1, _, _, by omega, by go_num, h2, hL, hkb⟩
        case measure => simp [intOf]; omega
      have hkp : KP i9 = true := by rw [HKp.out]; exact decide_eq_true hkd
      have i3 : ¬ d9 < nth DP i9 := by omega
      obtain ⟨A0, c0, rfl⟩ := own_slice h2.own0
      obtain ⟨A1, c1, rfl⟩ := own_slice h2.own1
      have t0 := h2.blk.c0
      have hcl := hL.cell (j := i9) (by rw [HLl.out]; exact hlt)
      have hfl := hL.free i9
      go_upto_region 10 with (fail)
      have hL2 := hL.set i9 ((PF i9).length : Int)
      rw [show (PL i9).set i9 ((PF i9).length : Int) = PL (i9 + 1) from by rw [HPl.out]; exact HLy.out _ hlt hkp] at hL2
      replace h2 := Two.far (j := i9) (v := .int .i64 ((PF i9).length : Int)) h2 hTL (own_no h2.own0 hLx) (own_no h2.own1 hLx)
      replace hkb := hkb.set1 i9 (.int .i64 ((PF i9).length : Int))
      replace hw := Below.setCell' (p := ⟨gL, i9, none⟩) hwL hwr (.int .i64 ((PF i9).length : Int))
      replace hx0' := cell_far (u := .int .i64 ((PF i9).length : Int)) hx0' e5L i9
      replace hcS := cell_far (u := .int .i64 ((PF i9).length : Int)) hcS e2L i9
      replace hcE := cell_far (u := .int .i64 ((PF i9).length : Int)) hcE e3L i9
      clear hL t0 hcl hfl hwr hcD hx1'
      generalize wr.setCell ⟨gL, i9, none⟩ (.int .i64 ((PF i9).length : Int)) = wz at *
      have hL := hL2
      clear hL2
      have hWi := HWi.out i9 hlt
      have i6 : (i9 : Int) < (SU.length : Int) := by rw [HSL.out]; exact i1
      by_cases h0 : i9 = 0
      case pos =>
        have hPR : Hid (PR i9 = -1) := by rw [h0]; exact HP0
        have i4 : ¬ (0 : Int) < (i9 : Int) := by omega
        clear h0
        by_cases hdd : nth DP i9 = d9
        case pos =>
          have hWT : Hid (WT i9 = nth SU i9) := Lib.hid (hWi.1 (.inl hdd))
          have i5 : (nth DP i9 == d9) = true := by rw [beq_iff_eq]; exact hdd
          clear hWi hkd hdd
          go_upto_region 15 with (fail)
          have hbl := h2.blk
          have ho0 := h2.own0
          have ho1 := h2.own1
          have hne0 := h2.ne0
          have hne1 := h2.ne1
          have hap := h2.ap
          have t0 := hbl.c0
          have t1 := hbl.c1
          clear h2
          refine wp_region_J (S := fun w' => w'.cell? ⟨gT, 0, none⟩ = some (.slice A0 (PF i9).length c0) ∧ w'.cell? ⟨gT, 1, none⟩ = some (.slice A1 (WF i9).length c1) ∧ Below w.heap.size w w') (fun j => j == 1 || j == 3 || j == 4 || j == 6 || j == 8 || j == 9) (by kernel_rfl) ⟨t0, t1, hw.drew⟩ (fun hHeld => ?_)
          refine wpAnyJ_pure (i := 0) (oi := ?oob1) (v := ?vvb1) ?hib1 (by kernel_rfl) (by kernel_rfl) (by kernel_rfl) (by rfl) ?hqb1 (Or.inl ⟨?hgb1, ?hyb1⟩) ?restb1
          case hib1 => simp only [List.getElem?_toArray, List.getElem?_cons_zero]; rfl
          case hqb1 => exact fun _ _ _ h => h
          case hgb1 => rfl
          case hyb1 =>
            intro wq _
            go_simp
            (try with_reducible rfl)
          (try simp only [Act.put, List.setIfInBounds_toArray, List.set_cons_zero, List.set_cons_succ])
          refine wpAnyJ_pure (i := 2) (oi := ?oob2) (v := ?vvb2) ?hib2 (by kernel_rfl) (by kernel_rfl) (by kernel_rfl) (by rfl) ?hqb2 (Or.inl ⟨?hgb2, ?hyb2⟩) ?restb2
          case hib2 => simp only [List.getElem?_toArray, List.getElem?_cons_zero, List.getElem?_cons_succ]; rfl
          case hqb2 => exact fun _ _ _ h => h
          case hgb2 => rfl
          case hyb2 =>
            intro wq _
            go_simp
            (try with_reducible rfl)
          (try simp only [Act.put, List.setIfInBounds_toArray, List.set_cons_zero, List.set_cons_succ])
          refine wpAnyJ_pure (i := 5) (oi := ?oob3) (v := ?vvb3) ?hib3 (by kernel_rfl) (by kernel_rfl) (by kernel_rfl) (by rfl) ?hqb3 (Or.inl ⟨?hgb3, ?hyb3⟩) ?restb3
          case hib3 => simp only [List.getElem?_toArray, List.getElem?_cons_zero, List.getElem?_cons_succ]; rfl
          case hqb3 => exact fun _ _ _ h => h
          case hgb3 => rfl
          case hyb3 =>
            intro wq _
            go_simp
            (try with_reducible rfl)
          (try simp only [Act.put, List.setIfInBounds_toArray, List.set_cons_zero, List.set_cons_succ])
          refine wpAnyJ_pure (i := 7) (oi := ?oob4) (v := ?vvb4) ?hib4 (by kernel_rfl) (by kernel_rfl) (by kernel_rfl) (by rfl) ?hqb4 (Or.inl ⟨?hgb4, ?hyb4⟩) ?restb4
          case hib4 => simp only [List.getElem?_toArray, List.getElem?_cons_zero, List.getElem?_cons_succ]; rfl
          case hqb4 => exact fun _ _ _ h => h
          case hgb4 => rfl
          case hyb4 =>
            intro wq _
            go_simp
            (try with_reducible rfl)
          (try simp only [Act.put, List.setIfInBounds_toArray, List.set_cons_zero, List.set_cons_succ])
          refine wpAnyJ_take (i := 1) (oi := ?oob5) (v := ?vvb5) ?hib5 (by kernel_rfl) (by kernel_rfl) (by kernel_rfl) (by kernel_rfl) ?hqb5 (Or.inl ⟨?hgb5, ?hyb5⟩) (by assumption) ?restb5
          case hib5 => simp only [List.getElem?_toArray, List.getElem?_cons_zero, List.getElem?_cons_succ]; rfl
          case hqb5 => exact fun _ _ _ h => h
          case hgb5 => rfl
          case hyb5 =>
            intro wq hSw
            obtain ⟨t0, t1, hw⟩ := hSw
            go_simp
            (try with_reducible rfl)
          (try simp only [Act.put, List.setIfInBounds_toArray, List.set_cons_zero, List.set_cons_succ])
          refine wpAnyJ_take (i := 6) (oi := ?oob6) (v := ?vvb6) ?hib6 (by kernel_rfl) (by kernel_rfl) (by kernel_rfl) (by kernel_rfl) ?hqb6 (Or.inl ⟨?hgb6, ?hyb6⟩) (by assumption) ?restb6
          case hib6 => simp only [List.getElem?_toArray, List.getElem?_cons_zero, List.getElem?_cons_succ]; rfl
          case hqb6 => exact fun _ _ _ h => h
          case hgb6 => rfl
          case hyb6 =>
            intro wq hSw
            obtain ⟨t0, t1, hw⟩ := hSw
            go_simp
            (try with_reducible rfl)
          (try simp only [Act.put, List.setIfInBounds_toArray, List.set_cons_zero, List.set_cons_succ])
          refine wpAnyJ_ready (rs := [3, 8]) (by kernel_rfl) (by simp) ?_
          refine AllReadyJ.cons (i := 3) (o := ?oob7) ?hob7 (fun K9 hK9 => ?hstepb7) ?moreb7
          case hob7 => simp only [List.getElem?_toArray, List.getElem?_cons_zero, List.getElem?_cons_succ]; rfl
          case hstepb7 =>
            go_simp
            clear hHeld
            refine hK9.out _ _ ⟨keep_cell (Below.drew ((Below.refl wz.heap.size wz).alloc (Nat.le_refl _) _)) t0, keep_cell (Below.drew ((Below.refl wz.heap.size wz).alloc (Nat.le_refl _) _)) t1, Below.drew (keep_below_alloc hw _)⟩ (fun hHeld => ?_)
            clear hK9 K9
            (try simp only [Act.put, List.setIfInBounds_toArray, List.set_cons_zero, List.set_cons_succ])
            refine wpAnyJ_name hHeld (fun wab7 hHa hwz => ?_)
            have hbA : Below wz.heap.size wz wab7 := by rw [hwz]; exact Below.drew ((Below.refl wz.heap.size wz).alloc (Nat.le_refl _) _)
            have hn3 : NewsAt wab7 wz.heap.size (.int .i64 (-1)) := by rw [hwz]; exact World.news_of_block (cs := #[.int .i64 (-1)]) (t := 3) (fr := (0, 0)) (heap_alloc_new _ _)
            have hnv3 : (Value.slice A0 (PF i9).length c0).ownBlock ≠ some wz.heap.size ∧ (Value.slice A1 (WF i9).length c1).ownBlock ≠ some wz.heap.size := ⟨fun e => by have := (ho0.lt _ e).2; omega, fun e => by have := (ho1.lt _ e).2; omega⟩
            replace t0 := keep_cell hbA t0
            replace t1 := keep_cell hbA t1
            replace hbl := hbl.below hbA
            replace ho0 := own_below ho0 hbA
            replace ho1 := own_below ho1 hbA
            replace hkb := hkb.below hbA
            replace hL := hL.below hbA
            replace hw := keep_below hbA hw
            generalize wz.heap.size = g3 at hn3 hnv3 ⊢
            clear hHeld hbA hwz
            have hHeld := hHa
            clear hHa
            refine wpAnyJ_ready (rs := [4, 8]) (by kernel_rfl) (by simp) ?_
            refine AllReadyJ.cons (i := 4) (o := ?oob8) ?hob8 (fun K9 hK9 => ?hstepb8) ?moreb8
            case hob8 => simp only [List.getElem?_toArray, List.getElem?_cons_zero, List.getElem?_cons_succ]; rfl
            case hstepb8 =>
              clear hHeld
              refine step_append_elder _ (by rfl) _ _ 24 (by rfl) wx.heap.size 3 i0 (.int .i64 0) 1 8 Tryz.underlying24 hi hz0 hz1 hz2 rfl (by decide) _ _ _ (by rfl) ho0 ⟨g3, 0, none⟩ 1 1 [.int .i64 (-1)] (by rfl) rfl hn3 (by simp [Value.oneCell']) (by unfold maxLen; omega) (by omega) hkb.size ?_
              intro v5 wpb8 hown5 hg5 hat5 _
              obtain ⟨Av5, cv5, rfl⟩ := own_slice hown5
              have hv5 := new_apartI hbl.lt hne0 ho1 hap hat5
              have hr5 : ∀ g, (Value.slice A0 (PF i9).length c0).ownBlock = some g → wx.heap.size ≤ g := fun g e => (ho0.lt g e).1
              replace t0 := grown_cell hg5 t0 hne0
              replace t1 := grown_cell hg5 t1 hne0
              replace hbl := hbl.grown hg5 hne0
              replace hL := hL.grown hg5 (own_no ho0 hLx)
              replace ho1 := own_keptv ho1 hg5 (fun g e e2 => hap g e2 e)
              replace hw := Below.grown hw hg5 hw.size (fun g e => Nat.le_trans hwle (hr5 g e))
              replace hkb := hkb.grown hg5 hr5
              clear ho0 hn3 hr5 hg5 hat5
              refine hK9.out _ _ ⟨t0, t1, hw⟩ (fun hHeld => ?_)
              clear hK9 K9
              (try simp only [Act.put, List.setIfInBounds_toArray, List.set_cons_zero, List.set_cons_succ])
              refine wpAnyJ_pure (i := 10) (oi := ?oob9) (v := ?vvb9) ?hib9 (by kernel_rfl) (by kernel_rfl) (by kernel_rfl) (by rfl) ?hqb9 (Or.inl ⟨?hgb9, ?hyb9⟩) ?restb9
              case hib9 => simp only [List.getElem?_toArray, List.getElem?_cons_zero, List.getElem?_cons_succ]; rfl
              case hqb9 => exact fun _ _ _ h => h
              case hgb9 => rfl
              case hyb9 =>
                intro wq _
                go_simp
                (try with_reducible rfl)
              (try simp only [Act.put, List.setIfInBounds_toArray, List.set_cons_zero, List.set_cons_succ])
              refine wpAnyJ_ready (rs := [8]) (by kernel_rfl) (by simp) ?_
              refine AllReadyJ.cons (i := 8) (o := ?oob10) ?hob10 (fun K9 hK9 => ?hstepb10) AllReadyJ.nil
              case hob10 => simp only [List.getElem?_toArray, List.getElem?_cons_zero, List.getElem?_cons_succ]; rfl
              go_simp
              clear hHeld
              refine hK9.out _ _ ⟨keep_cell ((Below.refl wpb8.heap.size wpb8).alloc (Nat.le_refl _) _) t0, keep_cell ((Below.refl wpb8.heap.size wpb8).alloc (Nat.le_refl _) _) t1, keep_below_alloc hw _⟩ (fun hHeld => ?_)
              clear hK9 K9
              (try simp only [Act.put, List.setIfInBounds_toArray, List.set_cons_zero, List.set_cons_succ])
              refine wpAnyJ_name hHeld (fun wab10 hHa hwz => ?_)
              have hbA : Below wpb8.heap.size wpb8 wab10 := by rw [hwz]; exact (Below.refl wpb8.heap.size wpb8).alloc (Nat.le_refl _) _
              have hn8 : NewsAt wab10 wpb8.heap.size (.int .i64 (nth SU i9)) := by rw [hwz]; exact World.news_of_block (cs := #[.int .i64 (nth SU i9)]) (t := 3) (fr := (0, 0)) (heap_alloc_new _ _)
              have hnv8 : True ∧ (Value.slice A1 (WF i9).length c1).ownBlock ≠ some wpb8.heap.size := ⟨trivial, fun e => by have := (ho1.lt _ e).2; omega⟩
              replace t0 := keep_cell hbA t0
              replace t1 := keep_cell hbA t1
              replace hbl := hbl.below hbA
              replace ho1 := own_below ho1 hbA
              replace hkb := hkb.below hbA
              replace hL := hL.below hbA
              replace hown5 := own_below hown5 hbA
              replace hw := keep_below hbA hw
              generalize wpb8.heap.size = g8 at hn8 hnv8 ⊢
              clear hHeld hbA hwz
              have hHeld := hHa
              clear hHa
              refine wpAnyJ_ready (rs := [9]) (by kernel_rfl) (by simp) ?_
              refine AllReadyJ.cons (i := 9) (o := ?oob11) ?hob11 (fun K9 hK9 => ?hstepb11) AllReadyJ.nil
              case hob11 => simp only [List.getElem?_toArray, List.getElem?_cons_zero, List.getElem?_cons_succ]; rfl
              clear hHeld
              refine step_append_elder _ (by rfl) _ _ 24 (by rfl) wx.heap.size 3 i0 (.int .i64 0) 1 8 Tryz.underlying24 hi hz0 hz1 hz2 rfl (by decide) _ _ _ (by rfl) ho1 ⟨g8, 0, none⟩ 1 1 [.int .i64 (nth SU i9)] (by rfl) rfl hn8 (by simp [Value.oneCell']) (by unfold maxLen; omega) (by omega) hkb.size ?_
              intro v7 wpb11 hown7 hg7 hat7 _
              obtain ⟨Av7, cv7, rfl⟩ := own_slice hown7
              have hv7 : (Value.slice Av7 ((WF i9).length + 1) cv7).ownBlock ≠ some gT ∧ ∀ g, (Value.slice Av5 ((PF i9).length + 1) cv5).ownBlock = some g → (Value.slice Av7 ((WF i9).length + 1) cv7).ownBlock ≠ some g := by
                have h := new_apartI hbl.lt hne1 hown5 (fun g e e2 => hv5.2 g e2 e) hat7
                exact ⟨h.1, fun g e e2 => h.2 g e2 e⟩
              have hr7 : ∀ g, (Value.slice A1 (WF i9).length c1).ownBlock = some g → wx.heap.size ≤ g := fun g e => (ho1.lt g e).1
              replace t0 := grown_cell hg7 t0 hne1
              replace t1 := grown_cell hg7 t1 hne1
              replace hbl := hbl.grown hg7 hne1
              replace hL := hL.grown hg7 (own_no ho1 hLx)
              replace hown5 := own_keptv hown5 hg7 (fun g e e2 => hv5.2 g e e2)
              replace hw := Below.grown hw hg7 hw.size (fun g e => Nat.le_trans hwle (hr7 g e))
              replace hkb := hkb.grown hg7 hr7
              clear ho1 hn8 hr7 hg7 hat7
              refine hK9.out _ _ ⟨t0, t1, hw⟩ (fun hHeld => ?_)
              clear hK9 K9
              (try simp only [Act.put, List.setIfInBounds_toArray, List.set_cons_zero, List.set_cons_succ])
              refine wpAnyJ_ready (rs := [11]) (by kernel_rfl) (by simp) ?_
              refine AllReadyJ.free (i := 11) (o := ?oob12) ?hob12 (by rfl) (fun K9 hK9 => ?hstepb12) AllReadyJ.nil
              case hob12 => simp only [List.getElem?_toArray, List.getElem?_cons_zero, List.getElem?_cons_succ]; rfl
              have hff := hbl.free 0
              go_simp
              refine hK9.out _ _ trivial (fun _ => ?_)
              clear hK9 K9
              (try simp only [Act.put, List.setIfInBounds_toArray, List.set_cons_zero, List.set_cons_succ])
              refine wpAnyJ_call (fun wvb12 hwz => ?_)
              replace hbl := hbl.set0 (Value.slice Av5 ((PF i9).length + 1) cv5)
              replace hL := RowX.far (q := gT) (j := 0) (v := (Value.slice Av5 ((PF i9).length + 1) cv5)) hL hTL.symm
              replace hown5 := own_keptv hown5 (grown_set1 _ gT 0 (Value.slice Av5 ((PF i9).length + 1) cv5)) (fun g e e2 => hv5.1 (by rw [e, ← e2]))
              replace hown7 := own_keptv hown7 (grown_set1 _ gT 0 (Value.slice Av5 ((PF i9).length + 1) cv5)) (fun g e e2 => hv7.1 (by rw [e, ← e2]))
              replace hkb := hkb.set0 0 (Value.slice Av5 ((PF i9).length + 1) cv5)
              replace hw := Below.setCell' (p := ⟨gT, 0, none⟩) hwT hw (Value.slice Av5 ((PF i9).length + 1) cv5)
              rw [← hwz] at hbl hL hown5 hown7 hkb hw
              clear t0 t1 hff
              have t0 := hbl.c0
              have t1 := hbl.c1
              clear hwz
              refine wpAnyJ_pure (i := 12) (oi := ?oob13) (v := ?vvb13) ?hib13 (by kernel_rfl) (by kernel_rfl) (by kernel_rfl) (by rfl) ?hqb13 (Or.inl ⟨?hgb13, ?hyb13⟩) ?restb13
              case hib13 => simp only [List.getElem?_toArray, List.getElem?_cons_zero, List.getElem?_cons_succ]; rfl
              case hqb13 => exact fun _ _ _ h => h
              case hgb13 => rfl
              case hyb13 =>
                intro wq _
                go_simp
                (try with_reducible rfl)
              (try simp only [Act.put, List.setIfInBounds_toArray, List.set_cons_zero, List.set_cons_succ])
              refine wpAnyJ_ready (rs := [13]) (by kernel_rfl) (by simp) ?_
              refine AllReadyJ.free (i := 13) (o := ?oob14) ?hob14 (by rfl) (fun K9 hK9 => ?hstepb14) AllReadyJ.nil
              case hob14 => simp only [List.getElem?_toArray, List.getElem?_cons_zero, List.getElem?_cons_succ]; rfl
              have hff := hbl.free 1
              go_simp
              refine hK9.out _ _ trivial (fun _ => ?_)
              clear hK9 K9
              (try simp only [Act.put, List.setIfInBounds_toArray, List.set_cons_zero, List.set_cons_succ])
              refine wpAnyJ_call (fun wvb14 hwz => ?_)
              replace hbl := hbl.set1 (Value.slice Av7 ((WF i9).length + 1) cv7)
              replace hL := RowX.far (q := gT) (j := 1) (v := (Value.slice Av7 ((WF i9).length + 1) cv7)) hL hTL.symm
              replace hown5 := own_keptv hown5 (grown_set1 _ gT 1 (Value.slice Av7 ((WF i9).length + 1) cv7)) (fun g e e2 => hv5.1 (by rw [e, ← e2]))
              replace hown7 := own_keptv hown7 (grown_set1 _ gT 1 (Value.slice Av7 ((WF i9).length + 1) cv7)) (fun g e e2 => hv7.1 (by rw [e, ← e2]))
              replace hkb := hkb.set0 1 (Value.slice Av7 ((WF i9).length + 1) cv7)
              replace hw := Below.setCell' (p := ⟨gT, 1, none⟩) hwT hw (Value.slice Av7 ((WF i9).length + 1) cv7)
              rw [← hwz] at hbl hL hown5 hown7 hkb hw
              clear t0 t1 hff
              have t0 := hbl.c0
              have t1 := hbl.c1
              clear hwz
              clear hHeld
              refine wpAnyJ_done (by kernel_rfl) ?_ _
              have h4 : Two wvb14 wx.heap.size gT (Value.slice Av5 ((PF i9).length + 1) cv5) (Value.slice Av7 ((WF i9).length + 1) cv7) ((PF i9).length + 1) ((WF i9).length + 1) (PF (i9 + 1)) (WF (i9 + 1)) := ⟨hbl, by rw [HPy.out _ hkp, hPR.out, i64s_app]; exact hown5, by rw [HWy.out _ hkp, hWT.out, i64s_app]; exact hown7, hv5.1, hv7.1, hv7.2⟩
              have HL1 : Hid ((PF i9).length + 1 = (PF (i9 + 1)).length) := by rw [HPy.out _ hkp]; exact Lib.hid (by simp)
              have HL2 : Hid ((WF i9).length + 1 = (WF (i9 + 1)).length) := by rw [HWy.out _ hkp]; exact Lib.hid (by simp)
              clear hbl hown5 hown7 t0 t1
              (try clear hcU)
              (try clear hcA)
              (try clear hAe)
              (try clear hx0')
              (try clear j0 j1 i4)
              go_wp2
              go_roundw
              case rel => first | exact ⟨i9 + 1, hlt, by omega, ⟨_, _, by rw [← HL1.out, ← HL2.out]; exact h4⟩, hL, hkb⟩ | exact ⟨i9 + 1, _, _, hlt, by go_num, by rw [← HL1.out, ← HL2.out]; exact h4, hL, hkb⟩
              case measure => simp [intOf]; exact Nat.sub_lt_sub_left hlt (Nat.lt_succ_self _)
            refine AllReadyJ.cons (i := 8) (o := ?oob15) ?hob15 (fun K9 hK9 => ?hstepb15) ?moreb15
            case hob15 => simp only [List.getElem?_toArray, List.getElem?_cons_zero, List.getElem?_cons_succ]; rfl
            case hstepb15 =>
              go_simp
              clear hHeld
              refine hK9.out _ _ ⟨keep_cell ((Below.refl wab7.heap.size wab7).alloc (Nat.le_refl _) _) t0, keep_cell ((Below.refl wab7.heap.size wab7).alloc (Nat.le_refl _) _) t1, keep_below_alloc hw _⟩ (fun hHeld => ?_)
              clear hK9 K9
              (try simp only [Act.put, List.setIfInBounds_toArray, List.set_cons_zero, List.set_cons_succ])
              refine wpAnyJ_name hHeld (fun wab15 hHa hwz => ?_)
              have hbA : Below wab7.heap.size wab7 wab15 := by rw [hwz]; exact (Below.refl wab7.heap.size wab7).alloc (Nat.le_refl _) _
              have hn8 : NewsAt wab15 wab7.heap.size (.int .i64 (nth SU i9)) := by rw [hwz]; exact World.news_of_block (cs := #[.int .i64 (nth SU i9)]) (t := 3) (fr := (0, 0)) (heap_alloc_new _ _)
              have hnv8 : (Value.slice A0 (PF i9).length c0).ownBlock ≠ some wab7.heap.size ∧ (Value.slice A1 (WF i9).length c1).ownBlock ≠ some wab7.heap.size := ⟨fun e => by have := (ho0.lt _ e).2; omega, fun e => by have := (ho1.lt _ e).2; omega⟩
              replace t0 := keep_cell hbA t0
              replace t1 := keep_cell hbA t1
              replace hbl := hbl.below hbA
              replace ho0 := own_below ho0 hbA
              replace ho1 := own_below ho1 hbA
              replace hkb := hkb.below hbA
              replace hL := hL.below hbA
              replace hn3 := hn3.below hbA
              replace hw := keep_below hbA hw
              generalize wab7.heap.size = g8 at hn8 hnv8 ⊢
              clear hHeld hbA hwz
              have hHeld := hHa
              clear hHa
              refine wpAnyJ_ready (rs := [4]) (by kernel_rfl) (by simp) ?_
              refine AllReadyJ.cons (i := 4) (o := ?oob16) ?hob16 (fun K9 hK9 => ?hstepb16) AllReadyJ.nil
              case hob16 => simp only [List.getElem?_toArray, List.getElem?_cons_zero, List.getElem?_cons_succ]; rfl
              clear hHeld
              refine step_append_elder _ (by rfl) _ _ 24 (by rfl) wx.heap.size 3 i0 (.int .i64 0) 1 8 Tryz.underlying24 hi hz0 hz1 hz2 rfl (by decide) _ _ _ (by rfl) ho0 ⟨g3, 0, none⟩ 1 1 [.int .i64 (-1)] (by rfl) rfl hn3 (by simp [Value.oneCell']) (by unfold maxLen; omega) (by omega) hkb.size ?_
              intro v5 wpb16 hown5 hg5 hat5 _
              obtain ⟨Av5, cv5, rfl⟩ := own_slice hown5
              have hv5 := new_apartI hbl.lt hne0 ho1 hap hat5
              have hr5 : ∀ g, (Value.slice A0 (PF i9).length c0).ownBlock = some g → wx.heap.size ≤ g := fun g e => (ho0.lt g e).1
              replace t0 := grown_cell hg5 t0 hne0
              replace t1 := grown_cell hg5 t1 hne0
              replace hbl := hbl.grown hg5 hne0
              replace hL := hL.grown hg5 (own_no ho0 hLx)
              replace ho1 := own_keptv ho1 hg5 (fun g e e2 => hap g e2 e)
              replace hn8 := hn8.grown hg5 hnv8.1
              replace hw := Below.grown hw hg5 hw.size (fun g e => Nat.le_trans hwle (hr5 g e))
              replace hkb := hkb.grown hg5 hr5
              clear ho0 hn3 hr5 hg5 hat5
              refine hK9.out _ _ ⟨t0, t1, hw⟩ (fun hHeld => ?_)
              clear hK9 K9
              (try simp only [Act.put, List.setIfInBounds_toArray, List.set_cons_zero, List.set_cons_succ])
              refine wpAnyJ_pure (i := 10) (oi := ?oob17) (v := ?vvb17) ?hib17 (by kernel_rfl) (by kernel_rfl) (by kernel_rfl) (by rfl) ?hqb17 (Or.inl ⟨?hgb17, ?hyb17⟩) ?restb17
              case hib17 => simp only [List.getElem?_toArray, List.getElem?_cons_zero, List.getElem?_cons_succ]; rfl
              case hqb17 => exact fun _ _ _ h => h
              case hgb17 => rfl
              case hyb17 =>
                intro wq _
                go_simp
                (try with_reducible rfl)
              (try simp only [Act.put, List.setIfInBounds_toArray, List.set_cons_zero, List.set_cons_succ])
              refine wpAnyJ_ready (rs := [9]) (by kernel_rfl) (by simp) ?_
              refine AllReadyJ.cons (i := 9) (o := ?oob18) ?hob18 (fun K9 hK9 => ?hstepb18) AllReadyJ.nil
              case hob18 => simp only [List.getElem?_toArray, List.getElem?_cons_zero, List.getElem?_cons_succ]; rfl
              clear hHeld
              refine step_append_elder _ (by rfl) _ _ 24 (by rfl) wx.heap.size 3 i0 (.int .i64 0) 1 8 Tryz.underlying24 hi hz0 hz1 hz2 rfl (by decide) _ _ _ (by rfl) ho1 ⟨g8, 0, none⟩ 1 1 [.int .i64 (nth SU i9)] (by rfl) rfl hn8 (by simp [Value.oneCell']) (by unfold maxLen; omega) (by omega) hkb.size ?_
              intro v7 wpb18 hown7 hg7 hat7 _
              obtain ⟨Av7, cv7, rfl⟩ := own_slice hown7
              have hv7 : (Value.slice Av7 ((WF i9).length + 1) cv7).ownBlock ≠ some gT ∧ ∀ g, (Value.slice Av5 ((PF i9).length + 1) cv5).ownBlock = some g → (Value.slice Av7 ((WF i9).length + 1) cv7).ownBlock ≠ some g := by
                have h := new_apartI hbl.lt hne1 hown5 (fun g e e2 => hv5.2 g e2 e) hat7
                exact ⟨h.1, fun g e e2 => h.2 g e2 e⟩
              have hr7 : ∀ g, (Value.slice A1 (WF i9).length c1).ownBlock = some g → wx.heap.size ≤ g := fun g e => (ho1.lt g e).1
              replace t0 := grown_cell hg7 t0 hne1
              replace t1 := grown_cell hg7 t1 hne1
              replace hbl := hbl.grown hg7 hne1
              replace hL := hL.grown hg7 (own_no ho1 hLx)
              replace hown5 := own_keptv hown5 hg7 (fun g e e2 => hv5.2 g e e2)
              replace hw := Below.grown hw hg7 hw.size (fun g e => Nat.le_trans hwle (hr7 g e))
              replace hkb := hkb.grown hg7 hr7
              clear ho1 hn8 hr7 hg7 hat7
              refine hK9.out _ _ ⟨t0, t1, hw⟩ (fun hHeld => ?_)
              clear hK9 K9
              (try simp only [Act.put, List.setIfInBounds_toArray, List.set_cons_zero, List.set_cons_succ])
              refine wpAnyJ_ready (rs := [11]) (by kernel_rfl) (by simp) ?_
              refine AllReadyJ.free (i := 11) (o := ?oob19) ?hob19 (by rfl) (fun K9 hK9 => ?hstepb19) AllReadyJ.nil
              case hob19 => simp only [List.getElem?_toArray, List.getElem?_cons_zero, List.getElem?_cons_succ]; rfl
              have hff := hbl.free 0
              go_simp
              refine hK9.out _ _ trivial (fun _ => ?_)
              clear hK9 K9
              (try simp only [Act.put, List.setIfInBounds_toArray, List.set_cons_zero, List.set_cons_succ])
              refine wpAnyJ_call (fun wvb19 hwz => ?_)
              replace hbl := hbl.set0 (Value.slice Av5 ((PF i9).length + 1) cv5)
              replace hL := RowX.far (q := gT) (j := 0) (v := (Value.slice Av5 ((PF i9).length + 1) cv5)) hL hTL.symm
              replace hown5 := own_keptv hown5 (grown_set1 _ gT 0 (Value.slice Av5 ((PF i9).length + 1) cv5)) (fun g e e2 => hv5.1 (by rw [e, ← e2]))
              replace hown7 := own_keptv hown7 (grown_set1 _ gT 0 (Value.slice Av5 ((PF i9).length + 1) cv5)) (fun g e e2 => hv7.1 (by rw [e, ← e2]))
              replace hkb := hkb.set0 0 (Value.slice Av5 ((PF i9).length + 1) cv5)
              replace hw := Below.setCell' (p := ⟨gT, 0, none⟩) hwT hw (Value.slice Av5 ((PF i9).length + 1) cv5)
              rw [← hwz] at hbl hL hown5 hown7 hkb hw
              clear t0 t1 hff
              have t0 := hbl.c0
              have t1 := hbl.c1
              clear hwz
              refine wpAnyJ_pure (i := 12) (oi := ?oob20) (v := ?vvb20) ?hib20 (by kernel_rfl) (by kernel_rfl) (by kernel_rfl) (by rfl) ?hqb20 (Or.inl ⟨?hgb20, ?hyb20⟩) ?restb20
              case hib20 => simp only [List.getElem?_toArray, List.getElem?_cons_zero, List.getElem?_cons_succ]; rfl
              case hqb20 => exact fun _ _ _ h => h
              case hgb20 => rfl
              case hyb20 =>
                intro wq _
                go_simp
                (try with_reducible rfl)
              (try simp only [Act.put, List.setIfInBounds_toArray, List.set_cons_zero, List.set_cons_succ])
              refine wpAnyJ_ready (rs := [13]) (by kernel_rfl) (by simp) ?_
              refine AllReadyJ.free (i := 13) (o := ?oob21) ?hob21 (by rfl) (fun K9 hK9 => ?hstepb21) AllReadyJ.nil
              case hob21 => simp only [List.getElem?_toArray, List.getElem?_cons_zero, List.getElem?_cons_succ]; rfl
              have hff := hbl.free 1
              go_simp
              refine hK9.out _ _ trivial (fun _ => ?_)
              clear hK9 K9
              (try simp only [Act.put, List.setIfInBounds_toArray, List.set_cons_zero, List.set_cons_succ])
              refine wpAnyJ_call (fun wvb21 hwz => ?_)
              replace hbl := hbl.set1 (Value.slice Av7 ((WF i9).length + 1) cv7)
              replace hL := RowX.far (q := gT) (j := 1) (v := (Value.slice Av7 ((WF i9).length + 1) cv7)) hL hTL.symm
              replace hown5 := own_keptv hown5 (grown_set1 _ gT 1 (Value.slice Av7 ((WF i9).length + 1) cv7)) (fun g e e2 => hv5.1 (by rw [e, ← e2]))
              replace hown7 := own_keptv hown7 (grown_set1 _ gT 1 (Value.slice Av7 ((WF i9).length + 1) cv7)) (fun g e e2 => hv7.1 (by rw [e, ← e2]))
              replace hkb := hkb.set0 1 (Value.slice Av7 ((WF i9).length + 1) cv7)
              replace hw := Below.setCell' (p := ⟨gT, 1, none⟩) hwT hw (Value.slice Av7 ((WF i9).length + 1) cv7)
              rw [← hwz] at hbl hL hown5 hown7 hkb hw
              clear t0 t1 hff
              have t0 := hbl.c0
              have t1 := hbl.c1
              clear hwz
              clear hHeld
              refine wpAnyJ_done (by kernel_rfl) ?_ _
              have h4 : Two wvb21 wx.heap.size gT (Value.slice Av5 ((PF i9).length + 1) cv5) (Value.slice Av7 ((WF i9).length + 1) cv7) ((PF i9).length + 1) ((WF i9).length + 1) (PF (i9 + 1)) (WF (i9 + 1)) := ⟨hbl, by rw [HPy.out _ hkp, hPR.out, i64s_app]; exact hown5, by rw [HWy.out _ hkp, hWT.out, i64s_app]; exact hown7, hv5.1, hv7.1, hv7.2⟩
              have HL1 : Hid ((PF i9).length + 1 = (PF (i9 + 1)).length) := by rw [HPy.out _ hkp]; exact Lib.hid (by simp)
              have HL2 : Hid ((WF i9).length + 1 = (WF (i9 + 1)).length) := by rw [HWy.out _ hkp]; exact Lib.hid (by simp)
              clear hbl hown5 hown7 t0 t1
              (try clear hcU)
              (try clear hcA)
              (try clear hAe)
              (try clear hx0')
              (try clear j0 j1 i4)
              go_wp2
              go_roundw
              case rel => first | exact ⟨i9 + 1, hlt, by omega, ⟨_, _, by rw [← HL1.out, ← HL2.out]; exact h4⟩, hL, hkb⟩ | exact ⟨i9 + 1, _, _, hlt, by go_num, by rw [← HL1.out, ← HL2.out]; exact h4, hL, hkb⟩
              case measure => simp [intOf]; exact Nat.sub_lt_sub_left hlt (Nat.lt_succ_self _)
            exact AllReadyJ.nil
          refine AllReadyJ.cons (i := 8) (o := ?oob22) ?hob22 (fun K9 hK9 => ?hstepb22) ?moreb22
          case hob22 => simp only [List.getElem?_toArray, List.getElem?_cons_zero, List.getElem?_cons_succ]; rfl
          case hstepb22 =>
            go_simp
            clear hHeld
            refine hK9.out _ _ ⟨keep_cell (Below.drew ((Below.refl wz.heap.size wz).alloc (Nat.le_refl _) _)) t0, keep_cell (Below.drew ((Below.refl wz.heap.size wz).alloc (Nat.le_refl _) _)) t1, Below.drew (keep_below_alloc hw _)⟩ (fun hHeld => ?_)
            clear hK9 K9
            (try simp only [Act.put, List.setIfInBounds_toArray, List.set_cons_zero, List.set_cons_succ])
            refine wpAnyJ_name hHeld (fun wab22 hHa hwz => ?_)
            have hbA : Below wz.heap.size wz wab22 := by rw [hwz]; exact Below.drew ((Below.refl wz.heap.size wz).alloc (Nat.le_refl _) _)
            have hn8 : NewsAt wab22 wz.heap.size (.int .i64 (nth SU i9)) := by rw [hwz]; exact World.news_of_block (cs := #[.int .i64 (nth SU i9)]) (t := 3) (fr := (0, 0)) (heap_alloc_new _ _)
            have hnv8 : (Value.slice A0 (PF i9).length c0).ownBlock ≠ some wz.heap.size ∧ (Value.slice A1 (WF i9).length c1).ownBlock ≠ some wz.heap.size := ⟨fun e => by have := (ho0.lt _ e).2; omega, fun e => by have := (ho1.lt _ e).2; omega⟩
            replace t0 := keep_cell hbA t0
            replace t1 := keep_cell hbA t1
            replace hbl := hbl.below hbA
            replace ho0 := own_below ho0 hbA
            replace ho1 := own_below ho1 hbA
            replace hkb := hkb.below hbA
            replace hL := hL.below hbA
            replace hw := keep_below hbA hw
            generalize wz.heap.size = g8 at hn8 hnv8 ⊢
            clear hHeld hbA hwz
            have hHeld := hHa
            clear hHa
            refine wpAnyJ_ready (rs := [3]) (by kernel_rfl) (by simp) ?_
            refine AllReadyJ.cons (i := 3) (o := ?oob23) ?hob23 (fun K9 hK9 => ?hstepb23) AllReadyJ.nil
            case hob23 => simp only [List.getElem?_toArray, List.getElem?_cons_zero, List.getElem?_cons_succ]; rfl
            go_simp
            clear hHeld
            refine hK9.out _ _ ⟨keep_cell ((Below.refl wab22.heap.size wab22).alloc (Nat.le_refl _) _) t0, keep_cell ((Below.refl wab22.heap.size wab22).alloc (Nat.le_refl _) _) t1, keep_below_alloc hw _⟩ (fun hHeld => ?_)
            clear hK9 K9
            (try simp only [Act.put, List.setIfInBounds_toArray, List.set_cons_zero, List.set_cons_succ])
            refine wpAnyJ_name hHeld (fun wab23 hHa hwz => ?_)
            have hbA : Below wab22.heap.size wab22 wab23 := by rw [hwz]; exact (Below.refl wab22.heap.size wab22).alloc (Nat.le_refl _) _
            have hn3 : NewsAt wab23 wab22.heap.size (.int .i64 (-1)) := by rw [hwz]; exact World.news_of_block (cs := #[.int .i64 (-1)]) (t := 3) (fr := (0, 0)) (heap_alloc_new _ _)
            have hnv3 : (Value.slice A0 (PF i9).length c0).ownBlock ≠ some wab22.heap.size ∧ (Value.slice A1 (WF i9).length c1).ownBlock ≠ some wab22.heap.size := ⟨fun e => by have := (ho0.lt _ e).2; omega, fun e => by have := (ho1.lt _ e).2; omega⟩
            replace t0 := keep_cell hbA t0
            replace t1 := keep_cell hbA t1
            replace hbl := hbl.below hbA
            replace ho0 := own_below ho0 hbA
            replace ho1 := own_below ho1 hbA
            replace hkb := hkb.below hbA
            replace hL := hL.below hbA
            replace hn8 := hn8.below hbA
            replace hw := keep_below hbA hw
            generalize wab22.heap.size = g3 at hn3 hnv3 ⊢
            clear hHeld hbA hwz
            have hHeld := hHa
            clear hHa
            refine wpAnyJ_ready (rs := [4]) (by kernel_rfl) (by simp) ?_
            refine AllReadyJ.cons (i := 4) (o := ?oob24) ?hob24 (fun K9 hK9 => ?hstepb24) AllReadyJ.nil
            case hob24 => simp only [List.getElem?_toArray, List.getElem?_cons_zero, List.getElem?_cons_succ]; rfl
            clear hHeld
            refine step_append_elder _ (by rfl) _ _ 24 (by rfl) wx.heap.size 3 i0 (.int .i64 0) 1 8 Tryz.underlying24 hi hz0 hz1 hz2 rfl (by decide) _ _ _ (by rfl) ho0 ⟨g3, 0, none⟩ 1 1 [.int .i64 (-1)] (by rfl) rfl hn3 (by simp [Value.oneCell']) (by unfold maxLen; omega) (by omega) hkb.size ?_
            intro v5 wpb24 hown5 hg5 hat5 _
            obtain ⟨Av5, cv5, rfl⟩ := own_slice hown5
            have hv5 := new_apartI hbl.lt hne0 ho1 hap hat5
            have hr5 : ∀ g, (Value.slice A0 (PF i9).length c0).ownBlock = some g → wx.heap.size ≤ g := fun g e => (ho0.lt g e).1
            replace t0 := grown_cell hg5 t0 hne0
            replace t1 := grown_cell hg5 t1 hne0
            replace hbl := hbl.grown hg5 hne0
            replace hL := hL.grown hg5 (own_no ho0 hLx)
            replace ho1 := own_keptv ho1 hg5 (fun g e e2 => hap g e2 e)
            replace hn8 := hn8.grown hg5 hnv8.1
            replace hw := Below.grown hw hg5 hw.size (fun g e => Nat.le_trans hwle (hr5 g e))
            replace hkb := hkb.grown hg5 hr5
            clear ho0 hn3 hr5 hg5 hat5
            refine hK9.out _ _ ⟨t0, t1, hw⟩ (fun hHeld => ?_)
            clear hK9 K9
            (try simp only [Act.put, List.setIfInBounds_toArray, List.set_cons_zero, List.set_cons_succ])
            refine wpAnyJ_pure (i := 10) (oi := ?oob25) (v := ?vvb25) ?hib25 (by kernel_rfl) (by kernel_rfl) (by kernel_rfl) (by rfl) ?hqb25 (Or.inl ⟨?hgb25, ?hyb25⟩) ?restb25
            case hib25 => simp only [List.getElem?_toArray, List.getElem?_cons_zero, List.getElem?_cons_succ]; rfl
            case hqb25 => exact fun _ _ _ h => h
            case hgb25 => rfl
            case hyb25 =>
              intro wq _
              go_simp
              (try with_reducible rfl)
            (try simp only [Act.put, List.setIfInBounds_toArray, List.set_cons_zero, List.set_cons_succ])
            refine wpAnyJ_ready (rs := [9]) (by kernel_rfl) (by simp) ?_
            refine AllReadyJ.cons (i := 9) (o := ?oob26) ?hob26 (fun K9 hK9 => ?hstepb26) AllReadyJ.nil
            case hob26 => simp only [List.getElem?_toArray, List.getElem?_cons_zero, List.getElem?_cons_succ]; rfl
            clear hHeld
            refine step_append_elder _ (by rfl) _ _ 24 (by rfl) wx.heap.size 3 i0 (.int .i64 0) 1 8 Tryz.underlying24 hi hz0 hz1 hz2 rfl (by decide) _ _ _ (by rfl) ho1 ⟨g8, 0, none⟩ 1 1 [.int .i64 (nth SU i9)] (by rfl) rfl hn8 (by simp [Value.oneCell']) (by unfold maxLen; omega) (by omega) hkb.size ?_
            intro v7 wpb26 hown7 hg7 hat7 _
            obtain ⟨Av7, cv7, rfl⟩ := own_slice hown7
            have hv7 : (Value.slice Av7 ((WF i9).length + 1) cv7).ownBlock ≠ some gT ∧ ∀ g, (Value.slice Av5 ((PF i9).length + 1) cv5).ownBlock = some g → (Value.slice Av7 ((WF i9).length + 1) cv7).ownBlock ≠ some g := by
              have h := new_apartI hbl.lt hne1 hown5 (fun g e e2 => hv5.2 g e2 e) hat7
              exact ⟨h.1, fun g e e2 => h.2 g e2 e⟩
            have hr7 : ∀ g, (Value.slice A1 (WF i9).length c1).ownBlock = some g → wx.heap.size ≤ g := fun g e => (ho1.lt g e).1
            replace t0 := grown_cell hg7 t0 hne1
            replace t1 := grown_cell hg7 t1 hne1
            replace hbl := hbl.grown hg7 hne1
            replace hL := hL.grown hg7 (own_no ho1 hLx)
            replace hown5 := own_keptv hown5 hg7 (fun g e e2 => hv5.2 g e e2)
            replace hw := Below.grown hw hg7 hw.size (fun g e => Nat.le_trans hwle (hr7 g e))
            replace hkb := hkb.grown hg7 hr7
            clear ho1 hn8 hr7 hg7 hat7
            refine hK9.out _ _ ⟨t0, t1, hw⟩ (fun hHeld => ?_)
            clear hK9 K9
            (try simp only [Act.put, List.setIfInBounds_toArray, List.set_cons_zero, List.set_cons_succ])
            refine wpAnyJ_ready (rs := [11]) (by kernel_rfl) (by simp) ?_
            refine AllReadyJ.free (i := 11) (o := ?oob27) ?hob27 (by rfl) (fun K9 hK9 => ?hstepb27) AllReadyJ.nil
            case hob27 => simp only [List.getElem?_toArray, List.getElem?_cons_zero, List.getElem?_cons_succ]; rfl
            have hff := hbl.free 0
            go_simp
            refine hK9.out _ _ trivial (fun _ => ?_)
            clear hK9 K9
            (try simp only [Act.put, List.setIfInBounds_toArray, List.set_cons_zero, List.set_cons_succ])
            refine wpAnyJ_call (fun wvb27 hwz => ?_)
            replace hbl := hbl.set0 (Value.slice Av5 ((PF i9).length + 1) cv5)
            replace hL := RowX.far (q := gT) (j := 0) (v := (Value.slice Av5 ((PF i9).length + 1) cv5)) hL hTL.symm
            replace hown5 := own_keptv hown5 (grown_set1 _ gT 0 (Value.slice Av5 ((PF i9).length + 1) cv5)) (fun g e e2 => hv5.1 (by rw [e, ← e2]))
            replace hown7 := own_keptv hown7 (grown_set1 _ gT 0 (Value.slice Av5 ((PF i9).length + 1) cv5)) (fun g e e2 => hv7.1 (by rw [e, ← e2]))
            replace hkb := hkb.set0 0 (Value.slice Av5 ((PF i9).length + 1) cv5)
            replace hw := Below.setCell' (p := ⟨gT, 0, none⟩) hwT hw (Value.slice Av5 ((PF i9).length + 1) cv5)
            rw [← hwz] at hbl hL hown5 hown7 hkb hw
            clear t0 t1 hff
            have t0 := hbl.c0
            have t1 := hbl.c1
            clear hwz
            refine wpAnyJ_pure (i := 12) (oi := ?oob28) (v := ?vvb28) ?hib28 (by kernel_rfl) (by kernel_rfl) (by kernel_rfl) (by rfl) ?hqb28 (Or.inl ⟨?hgb28, ?hyb28⟩) ?restb28
            case hib28 => simp only [List.getElem?_toArray, List.getElem?_cons_zero, List.getElem?_cons_succ]; rfl
            case hqb28 => exact fun _ _ _ h => h
            case hgb28 => rfl
            case hyb28 =>
              intro wq _
              go_simp
              (try with_reducible rfl)
            (try simp only [Act.put, List.setIfInBounds_toArray, List.set_cons_zero, List.set_cons_succ])
            refine wpAnyJ_ready (rs := [13]) (by kernel_rfl) (by simp) ?_
            refine AllReadyJ.free (i := 13) (o := ?oob29) ?hob29 (by rfl) (fun K9 hK9 => ?hstepb29) AllReadyJ.nil
            case hob29 => simp only [List.getElem?_toArray, List.getElem?_cons_zero, List.getElem?_cons_succ]; rfl
            have hff := hbl.free 1
            go_simp
            refine hK9.out _ _ trivial (fun _ => ?_)
            clear hK9 K9
            (try simp only [Act.put, List.setIfInBounds_toArray, List.set_cons_zero, List.set_cons_succ])
            refine wpAnyJ_call (fun wvb29 hwz => ?_)
            replace hbl := hbl.set1 (Value.slice Av7 ((WF i9).length + 1) cv7)
            replace hL := RowX.far (q := gT) (j := 1) (v := (Value.slice Av7 ((WF i9).length + 1) cv7)) hL hTL.symm
            replace hown5 := own_keptv hown5 (grown_set1 _ gT 1 (Value.slice Av7 ((WF i9).length + 1) cv7)) (fun g e e2 => hv5.1 (by rw [e, ← e2]))
            replace hown7 := own_keptv hown7 (grown_set1 _ gT 1 (Value.slice Av7 ((WF i9).length + 1) cv7)) (fun g e e2 => hv7.1 (by rw [e, ← e2]))
            replace hkb := hkb.set0 1 (Value.slice Av7 ((WF i9).length + 1) cv7)
            replace hw := Below.setCell' (p := ⟨gT, 1, none⟩) hwT hw (Value.slice Av7 ((WF i9).length + 1) cv7)
            rw [← hwz] at hbl hL hown5 hown7 hkb hw
            clear t0 t1 hff
            have t0 := hbl.c0
            have t1 := hbl.c1
            clear hwz
            clear hHeld
            refine wpAnyJ_done (by kernel_rfl) ?_ _
            have h4 : Two wvb29 wx.heap.size gT (Value.slice Av5 ((PF i9).length + 1) cv5) (Value.slice Av7 ((WF i9).length + 1) cv7) ((PF i9).length + 1) ((WF i9).length + 1) (PF (i9 + 1)) (WF (i9 + 1)) := ⟨hbl, by rw [HPy.out _ hkp, hPR.out, i64s_app]; exact hown5, by rw [HWy.out _ hkp, hWT.out, i64s_app]; exact hown7, hv5.1, hv7.1, hv7.2⟩
            have HL1 : Hid ((PF i9).length + 1 = (PF (i9 + 1)).length) := by rw [HPy.out _ hkp]; exact Lib.hid (by simp)
            have HL2 : Hid ((WF i9).length + 1 = (WF (i9 + 1)).length) := by rw [HWy.out _ hkp]; exact Lib.hid (by simp)
            clear hbl hown5 hown7 t0 t1
            (try clear hcU)
            (try clear hcA)
            (try clear hAe)
            (try clear hx0')
            (try clear j0 j1 i4)
            go_wp2
            go_roundw
            case rel => first | exact ⟨i9 + 1, hlt, by omega, ⟨_, _, by rw [← HL1.out, ← HL2.out]; exact h4⟩, hL, hkb⟩ | exact ⟨i9 + 1, _, _, hlt, by go_num, by rw [← HL1.out, ← HL2.out]; exact h4, hL, hkb⟩
            case measure => simp [intOf]; exact Nat.sub_lt_sub_left hlt (Nat.lt_succ_self _)
          exact AllReadyJ.nil
        have i5 : (nth DP i9 == d9) = false := by rw [beq_eq_false_iff_ne]; exact hdd
        by_cases hen : EN i9 = true
        case pos =>
          have hWT : Hid (WT i9 = nth SU i9) := Lib.hid (hWi.1 (.inr hen))
          rw [hen] at hcE
          clear hWi hkd hdd hen
          go_upto_region 15 with (fail)
          have hbl := h2.blk
          have ho0 := h2.own0
          have ho1 := h2.own1
          have hne0 := h2.ne0
          have hne1 := h2.ne1
          have hap := h2.ap
          have t0 := hbl.c0
          have t1 := hbl.c1
          clear h2
          refine wp_region_J (S := fun w' => w'.cell? ⟨gT, 0, none⟩ = some (.slice A0 (PF i9).length c0) ∧ w'.cell? ⟨gT, 1, none⟩ = some (.slice A1 (WF i9).length c1) ∧ Below w.heap.size w w') (fun j => j == 1 || j == 3 || j == 4 || j == 6 || j == 8 || j == 9) (by kernel_rfl) ⟨t0, t1, hw.drew⟩ (fun hHeld => ?_)
          refine wpAnyJ_pure (i := 0) (oi := ?ooc1) (v := ?vvc1) ?hic1 (by kernel_rfl) (by kernel_rfl) (by kernel_rfl) (by rfl) ?hqc1 (Or.inl ⟨?hgc1, ?hyc1⟩) ?restc1
          case hic1 => simp only [List.getElem?_toArray, List.getElem?_cons_zero]; rfl
          case hqc1 => exact fun _ _ _ h => h
          case hgc1 => rfl
          case hyc1 =>
            intro wq _
            go_simp
            (try with_reducible rfl)
          (try simp only [Act.put, List.setIfInBounds_toArray, List.set_cons_zero, List.set_cons_succ])
          refine wpAnyJ_pure (i := 2) (oi := ?ooc2) (v := ?vvc2) ?hic2 (by kernel_rfl) (by kernel_rfl) (by kernel_rfl) (by rfl) ?hqc2 (Or.inl ⟨?hgc2, ?hyc2⟩) ?restc2
          case hic2 => simp only [List.getElem?_toArray, List.getElem?_cons_zero, List.getElem?_cons_succ]; rfl
          case hqc2 => exact fun _ _ _ h => h
          case hgc2 => rfl
          case hyc2 =>
            intro wq _
            go_simp
            (try with_reducible rfl)
          (try simp only [Act.put, List.setIfInBounds_toArray, List.set_cons_zero, List.set_cons_succ])
          refine wpAnyJ_pure (i := 5) (oi := ?ooc3) (v := ?vvc3) ?hic3 (by kernel_rfl) (by kernel_rfl) (by kernel_rfl) (by rfl) ?hqc3 (Or.inl ⟨?hgc3, ?hyc3⟩) ?restc3
          case hic3 => simp only [List.getElem?_toArray, List.getElem?_cons_zero, List.getElem?_cons_succ]; rfl
          case hqc3 => exact fun _ _ _ h => h
          case hgc3 => rfl
          case hyc3 =>
            intro wq _
            go_simp
            (try with_reducible rfl)
          (try simp only [Act.put, List.setIfInBounds_toArray, List.set_cons_zero, List.set_cons_succ])
          refine wpAnyJ_pure (i := 7) (oi := ?ooc4) (v := ?vvc4) ?hic4 (by kernel_rfl) (by kernel_rfl) (by kernel_rfl) (by rfl) ?hqc4 (Or.inl ⟨?hgc4, ?hyc4⟩) ?restc4
          case hic4 => simp only [List.getElem?_toArray, List.getElem?_cons_zero, List.getElem?_cons_succ]; rfl
          case hqc4 => exact fun _ _ _ h => h
          case hgc4 => rfl
          case hyc4 =>
            intro wq _
            go_simp
            (try with_reducible rfl)
          (try simp only [Act.put, List.setIfInBounds_toArray, List.set_cons_zero, List.set_cons_succ])
          refine wpAnyJ_take (i := 1) (oi := ?ooc5) (v := ?vvc5) ?hic5 (by kernel_rfl) (by kernel_rfl) (by kernel_rfl) (by kernel_rfl) ?hqc5 (Or.inl ⟨?hgc5, ?hyc5⟩) (by assumption) ?restc5
          case hic5 => simp only [List.getElem?_toArray, List.getElem?_cons_zero, List.getElem?_cons_succ]; rfl
          case hqc5 => exact fun _ _ _ h => h
          case hgc5 => rfl
          case hyc5 =>
            intro wq hSw
            obtain ⟨t0, t1, hw⟩ := hSw
            go_simp
            (try with_reducible rfl)
          (try simp only [Act.put, List.setIfInBounds_toArray, List.set_cons_zero, List.set_cons_succ])
          refine wpAnyJ_take (i := 6) (oi := ?ooc6) (v := ?vvc6) ?hic6 (by kernel_rfl) (by kernel_rfl) (by kernel_rfl) (by kernel_rfl) ?hqc6 (Or.inl ⟨?hgc6, ?hyc6⟩) (by assumption) ?restc6
          case hic6 => simp only [List.getElem?_toArray, List.getElem?_cons_zero, List.getElem?_cons_succ]; rfl
          case hqc6 => exact fun _ _ _ h => h
          case hgc6 => rfl
          case hyc6 =>
            intro wq hSw
            obtain ⟨t0, t1, hw⟩ := hSw
            go_simp
            (try with_reducible rfl)
          (try simp only [Act.put, List.setIfInBounds_toArray, List.set_cons_zero, List.set_cons_succ])
          refine wpAnyJ_ready (rs := [3, 8]) (by kernel_rfl) (by simp) ?_
          refine AllReadyJ.cons (i := 3) (o := ?ooc7) ?hoc7 (fun K9 hK9 => ?hstepc7) ?morec7
          case hoc7 => simp only [List.getElem?_toArray, List.getElem?_cons_zero, List.getElem?_cons_succ]; rfl
          case hstepc7 =>
            go_simp
            clear hHeld
            refine hK9.out _ _ ⟨keep_cell (Below.drew ((Below.refl wz.heap.size wz).alloc (Nat.le_refl _) _)) t0, keep_cell (Below.drew ((Below.refl wz.heap.size wz).alloc (Nat.le_refl _) _)) t1, Below.drew (keep_below_alloc hw _)⟩ (fun hHeld => ?_)
            clear hK9 K9
            (try simp only [Act.put, List.setIfInBounds_toArray, List.set_cons_zero, List.set_cons_succ])
            refine wpAnyJ_name hHeld (fun wac7 hHa hwz => ?_)
            have hbA : Below wz.heap.size wz wac7 := by rw [hwz]; exact Below.drew ((Below.refl wz.heap.size wz).alloc (Nat.le_refl _) _)
            have hn3 : NewsAt wac7 wz.heap.size (.int .i64 (-1)) := by rw [hwz]; exact World.news_of_block (cs := #[.int .i64 (-1)]) (t := 3) (fr := (0, 0)) (heap_alloc_new _ _)
            have hnv3 : (Value.slice A0 (PF i9).length c0).ownBlock ≠ some wz.heap.size ∧ (Value.slice A1 (WF i9).length c1).ownBlock ≠ some wz.heap.size := ⟨fun e => by have := (ho0.lt _ e).2; omega, fun e => by have := (ho1.lt _ e).2; omega⟩
            replace t0 := keep_cell hbA t0
            replace t1 := keep_cell hbA t1
            replace hbl := hbl.below hbA
            replace ho0 := own_below ho0 hbA
            replace ho1 := own_below ho1 hbA
            replace hkb := hkb.below hbA
            replace hL := hL.below hbA
            replace hw := keep_below hbA hw
            generalize wz.heap.size = g3 at hn3 hnv3 ⊢
            clear hHeld hbA hwz
            have hHeld := hHa
            clear hHa
            refine wpAnyJ_ready (rs := [4, 8]) (by kernel_rfl) (by simp) ?_
            refine AllReadyJ.cons (i := 4) (o := ?ooc8) ?hoc8 (fun K9 hK9 => ?hstepc8) ?morec8
            case hoc8 => simp only [List.getElem?_toArray, List.getElem?_cons_zero, List.getElem?_cons_succ]; rfl
            case hstepc8 =>
              clear hHeld
              refine step_append_elder _ (by rfl) _ _ 24 (by rfl) wx.heap.size 3 i0 (.int .i64 0) 1 8 Tryz.underlying24 hi hz0 hz1 hz2 rfl (by decide) _ _ _ (by rfl) ho0 ⟨g3, 0, none⟩ 1 1 [.int .i64 (-1)] (by rfl) rfl hn3 (by simp [Value.oneCell']) (by unfold maxLen; omega) (by omega) hkb.size ?_
              intro v5 wpc8 hown5 hg5 hat5 _
              obtain ⟨Av5, cv5, rfl⟩ := own_slice hown5
              have hv5 := new_apartI hbl.lt hne0 ho1 hap hat5
              have hr5 : ∀ g, (Value.slice A0 (PF i9).length c0).ownBlock = some g → wx.heap.size ≤ g := fun g e => (ho0.lt g e).1
              replace t0 := grown_cell hg5 t0 hne0
              replace t1 := grown_cell hg5 t1 hne0
              replace hbl := hbl.grown hg5 hne0
              replace hL := hL.grown hg5 (own_no ho0 hLx)
              replace ho1 := own_keptv ho1 hg5 (fun g e e2 => hap g e2 e)
              replace hw := Below.grown hw hg5 hw.size (fun g e => Nat.le_trans hwle (hr5 g e))
              replace hkb := hkb.grown hg5 hr5
              clear ho0 hn3 hr5 hg5 hat5
              refine hK9.out _ _ ⟨t0, t1, hw⟩ (fun hHeld => ?_)
              clear hK9 K9
              (try simp only [Act.put, List.setIfInBounds_toArray, List.set_cons_zero, List.set_cons_succ])
              refine wpAnyJ_pure (i := 10) (oi := ?ooc9) (v := ?vvc9) ?hic9 (by kernel_rfl) (by kernel_rfl) (by kernel_rfl) (by rfl) ?hqc9 (Or.inl ⟨?hgc9, ?hyc9⟩) ?restc9
              case hic9 => simp only [List.getElem?_toArray, List.getElem?_cons_zero, List.getElem?_cons_succ]; rfl
              case hqc9 => exact fun _ _ _ h => h
              case hgc9 => rfl
              case hyc9 =>
                intro wq _
                go_simp
                (try with_reducible rfl)
              (try simp only [Act.put, List.setIfInBounds_toArray, List.set_cons_zero, List.set_cons_succ])
              refine wpAnyJ_ready (rs := [8]) (by kernel_rfl) (by simp) ?_
              refine AllReadyJ.cons (i := 8) (o := ?ooc10) ?hoc10 (fun K9 hK9 => ?hstepc10) AllReadyJ.nil
              case hoc10 => simp only [List.getElem?_toArray, List.getElem?_cons_zero, List.getElem?_cons_succ]; rfl
              go_simp
              clear hHeld
              refine hK9.out _ _ ⟨keep_cell ((Below.refl wpc8.heap.size wpc8).alloc (Nat.le_refl _) _) t0, keep_cell ((Below.refl wpc8.heap.size wpc8).alloc (Nat.le_refl _) _) t1, keep_below_alloc hw _⟩ (fun hHeld => ?_)
              clear hK9 K9
              (try simp only [Act.put, List.setIfInBounds_toArray, List.set_cons_zero, List.set_cons_succ])
              refine wpAnyJ_name hHeld (fun wac10 hHa hwz => ?_)
              have hbA : Below wpc8.heap.size wpc8 wac10 := by rw [hwz]; exact (Below.refl wpc8.heap.size wpc8).alloc (Nat.le_refl _) _
              have hn8 : NewsAt wac10 wpc8.heap.size (.int .i64 (nth SU i9)) := by rw [hwz]; exact World.news_of_block (cs := #[.int .i64 (nth SU i9)]) (t := 3) (fr := (0, 0)) (heap_alloc_new _ _)
              have hnv8 : True ∧ (Value.slice A1 (WF i9).length c1).ownBlock ≠ some wpc8.heap.size := ⟨trivial, fun e => by have := (ho1.lt _ e).2; omega⟩
              replace t0 := keep_cell hbA t0
              replace t1 := keep_cell hbA t1
              replace hbl := hbl.below hbA
              replace ho1 := own_below ho1 hbA
              replace hkb := hkb.below hbA
              replace hL := hL.below hbA
              replace hown5 := own_below hown5 hbA
              replace hw := keep_below hbA hw
              generalize wpc8.heap.size = g8 at hn8 hnv8 ⊢
              clear hHeld hbA hwz
              have hHeld := hHa
              clear hHa
              refine wpAnyJ_ready (rs := [9]) (by kernel_rfl) (by simp) ?_
              refine AllReadyJ.cons (i := 9) (o := ?ooc11) ?hoc11 (fun K9 hK9 => ?hstepc11) AllReadyJ.nil
              case hoc11 => simp only [List.getElem?_toArray, List.getElem?_cons_zero, List.getElem?_cons_succ]; rfl
              clear hHeld
              refine step_append_elder _ (by rfl) _ _ 24 (by rfl) wx.heap.size 3 i0 (.int .i64 0) 1 8 Tryz.underlying24 hi hz0 hz1 hz2 rfl (by decide) _ _ _ (by rfl) ho1 ⟨g8, 0, none⟩ 1 1 [.int .i64 (nth SU i9)] (by rfl) rfl hn8 (by simp [Value.oneCell']) (by unfold maxLen; omega) (by omega) hkb.size ?_
              intro v7 wpc11 hown7 hg7 hat7 _
              obtain ⟨Av7, cv7, rfl⟩ := own_slice hown7
              have hv7 : (Value.slice Av7 ((WF i9).length + 1) cv7).ownBlock ≠ some gT ∧ ∀ g, (Value.slice Av5 ((PF i9).length + 1) cv5).ownBlock = some g → (Value.slice Av7 ((WF i9).length + 1) cv7).ownBlock ≠ some g := by
                have h := new_apartI hbl.lt hne1 hown5 (fun g e e2 => hv5.2 g e2 e) hat7
                exact ⟨h.1, fun g e e2 => h.2 g e2 e⟩
              have hr7 : ∀ g, (Value.slice A1 (WF i9).length c1).ownBlock = some g → wx.heap.size ≤ g := fun g e => (ho1.lt g e).1
              replace t0 := grown_cell hg7 t0 hne1
              replace t1 := grown_cell hg7 t1 hne1
              replace hbl := hbl.grown hg7 hne1
              replace hL := hL.grown hg7 (own_no ho1 hLx)
              replace hown5 := own_keptv hown5 hg7 (fun g e e2 => hv5.2 g e e2)
              replace hw := Below.grown hw hg7 hw.size (fun g e => Nat.le_trans hwle (hr7 g e))
              replace hkb := hkb.grown hg7 hr7
              clear ho1 hn8 hr7 hg7 hat7
              refine hK9.out _ _ ⟨t0, t1, hw⟩ (fun hHeld => ?_)
              clear hK9 K9
              (try simp only [Act.put, List.setIfInBounds_toArray, List.set_cons_zero, List.set_cons_succ])
              refine wpAnyJ_ready (rs := [11]) (by kernel_rfl) (by simp) ?_
              refine AllReadyJ.free (i := 11) (o := ?ooc12) ?hoc12 (by rfl) (fun K9 hK9 => ?hstepc12) AllReadyJ.nil
              case hoc12 => simp only [List.getElem?_toArray, List.getElem?_cons_zero, List.getElem?_cons_succ]; rfl
              have hff := hbl.free 0
              go_simp
              refine hK9.out _ _ trivial (fun _ => ?_)
              clear hK9 K9
              (try simp only [Act.put, List.setIfInBounds_toArray, List.set_cons_zero, List.set_cons_succ])
              refine wpAnyJ_call (fun wvc12 hwz => ?_)
              replace hbl := hbl.set0 (Value.slice Av5 ((PF i9).length + 1) cv5)
              replace hL := RowX.far (q := gT) (j := 0) (v := (Value.slice Av5 ((PF i9).length + 1) cv5)) hL hTL.symm
              replace hown5 := own_keptv hown5 (grown_set1 _ gT 0 (Value.slice Av5 ((PF i9).length + 1) cv5)) (fun g e e2 => hv5.1 (by rw [e, ← e2]))
              replace hown7 := own_keptv hown7 (grown_set1 _ gT 0 (Value.slice Av5 ((PF i9).length + 1) cv5)) (fun g e e2 => hv7.1 (by rw [e, ← e2]))
              replace hkb := hkb.set0 0 (Value.slice Av5 ((PF i9).length + 1) cv5)
              replace hw := Below.setCell' (p := ⟨gT, 0, none⟩) hwT hw (Value.slice Av5 ((PF i9).length + 1) cv5)
              rw [← hwz] at hbl hL hown5 hown7 hkb hw
              clear t0 t1 hff
              have t0 := hbl.c0
              have t1 := hbl.c1
              clear hwz
              refine wpAnyJ_pure (i := 12) (oi := ?ooc13) (v := ?vvc13) ?hic13 (by kernel_rfl) (by kernel_rfl) (by kernel_rfl) (by rfl) ?hqc13 (Or.inl ⟨?hgc13, ?hyc13⟩) ?restc13
              case hic13 => simp only [List.getElem?_toArray, List.getElem?_cons_zero, List.getElem?_cons_succ]; rfl
              case hqc13 => exact fun _ _ _ h => h
              case hgc13 => rfl
              case hyc13 =>
                intro wq _
                go_simp
                (try with_reducible rfl)
              (try simp only [Act.put, List.setIfInBounds_toArray, List.set_cons_zero, List.set_cons_succ])
              refine wpAnyJ_ready (rs := [13]) (by kernel_rfl) (by simp) ?_
              refine AllReadyJ.free (i := 13) (o := ?ooc14) ?hoc14 (by rfl) (fun K9 hK9 => ?hstepc14) AllReadyJ.nil
              case hoc14 => simp only [List.getElem?_toArray, List.getElem?_cons_zero, List.getElem?_cons_succ]; rfl
              have hff := hbl.free 1
              go_simp
              refine hK9.out _ _ trivial (fun _ => ?_)
              clear hK9 K9
              (try simp only [Act.put, List.setIfInBounds_toArray, List.set_cons_zero, List.set_cons_succ])
              refine wpAnyJ_call (fun wvc14 hwz => ?_)
              replace hbl := hbl.set1 (Value.slice Av7 ((WF i9).length + 1) cv7)
              replace hL := RowX.far (q := gT) (j := 1) (v := (Value.slice Av7 ((WF i9).length + 1) cv7)) hL hTL.symm
              replace hown5 := own_keptv hown5 (grown_set1 _ gT 1 (Value.slice Av7 ((WF i9).length + 1) cv7)) (fun g e e2 => hv5.1 (by rw [e, ← e2]))
              replace hown7 := own_keptv hown7 (grown_set1 _ gT 1 (Value.slice Av7 ((WF i9).length + 1) cv7)) (fun g e e2 => hv7.1 (by rw [e, ← e2]))
              replace hkb := hkb.set0 1 (Value.slice Av7 ((WF i9).length + 1) cv7)
              replace hw := Below.setCell' (p := ⟨gT, 1, none⟩) hwT hw (Value.slice Av7 ((WF i9).length + 1) cv7)
              rw [← hwz] at hbl hL hown5 hown7 hkb hw
              clear t0 t1 hff
              have t0 := hbl.c0
              have t1 := hbl.c1
              clear hwz
              clear hHeld
              refine wpAnyJ_done (by kernel_rfl) ?_ _
              have h4 : Two wvc14 wx.heap.size gT (Value.slice Av5 ((PF i9).length + 1) cv5) (Value.slice Av7 ((WF i9).length + 1) cv7) ((PF i9).length + 1) ((WF i9).length + 1) (PF (i9 + 1)) (WF (i9 + 1)) := ⟨hbl, by rw [HPy.out _ hkp, hPR.out, i64s_app]; exact hown5, by rw [HWy.out _ hkp, hWT.out, i64s_app]; exact hown7, hv5.1, hv7.1, hv7.2⟩
              have HL1 : Hid ((PF i9).length + 1 = (PF (i9 + 1)).length) := by rw [HPy.out _ hkp]; exact Lib.hid (by simp)
              have HL2 : Hid ((WF i9).length + 1 = (WF (i9 + 1)).length) := by rw [HWy.out _ hkp]; exact Lib.hid (by simp)
              clear hbl hown5 hown7 t0 t1
              (try clear hcU)
              (try clear hcA)
              (try clear hAe)
              (try clear hx0')
              (try clear j0 j1 i4)
              go_wp2
              go_roundw
              case rel => first | exact ⟨i9 + 1, hlt, by omega, ⟨_, _, by rw [← HL1.out, ← HL2.out]; exact h4⟩, hL, hkb⟩ | exact ⟨i9 + 1, _, _, hlt, by go_num, by rw [← HL1.out, ← HL2.out]; exact h4, hL, hkb⟩
              case measure => simp [intOf]; exact Nat.sub_lt_sub_left hlt (Nat.lt_succ_self _)
            refine AllReadyJ.cons (i := 8) (o := ?ooc15) ?hoc15 (fun K9 hK9 => ?hstepc15) ?morec15
            case hoc15 => simp only [List.getElem?_toArray, List.getElem?_cons_zero, List.getElem?_cons_succ]; rfl
            case hstepc15 =>
              go_simp
              clear hHeld
              refine hK9.out _ _ ⟨keep_cell ((Below.refl wac7.heap.size wac7).alloc (Nat.le_refl _) _) t0, keep_cell ((Below.refl wac7.heap.size wac7).alloc (Nat.le_refl _) _) t1, keep_below_alloc hw _⟩ (fun hHeld => ?_)
              clear hK9 K9
              (try simp only [Act.put, List.setIfInBounds_toArray, List.set_cons_zero, List.set_cons_succ])
              refine wpAnyJ_name hHeld (fun wac15 hHa hwz => ?_)
              have hbA : Below wac7.heap.size wac7 wac15 := by rw [hwz]; exact (Below.refl wac7.heap.size wac7).alloc (Nat.le_refl _) _
              have hn8 : NewsAt wac15 wac7.heap.size (.int .i64 (nth SU i9)) := by rw [hwz]; exact World.news_of_block (cs := #[.int .i64 (nth SU i9)]) (t := 3) (fr := (0, 0)) (heap_alloc_new _ _)
              have hnv8 : (Value.slice A0 (PF i9).length c0).ownBlock ≠ some wac7.heap.size ∧ (Value.slice A1 (WF i9).length c1).ownBlock ≠ some wac7.heap.size := ⟨fun e => by have := (ho0.lt _ e).2; omega, fun e => by have := (ho1.lt _ e).2; omega⟩
              replace t0 := keep_cell hbA t0
              replace t1 := keep_cell hbA t1
              replace hbl := hbl.below hbA
              replace ho0 := own_below ho0 hbA
              replace ho1 := own_below ho1 hbA
              replace hkb := hkb.below hbA
              replace hL := hL.below hbA
              replace hn3 := hn3.below hbA
              replace hw := keep_below hbA hw
              generalize wac7.heap.size = g8 at hn8 hnv8 ⊢
              clear hHeld hbA hwz
              have hHeld := hHa
              clear hHa
              refine wpAnyJ_ready (rs := [4]) (by kernel_rfl) (by simp) ?_
              refine AllReadyJ.cons (i := 4) (o := ?ooc16) ?hoc16 (fun K9 hK9 => ?hstepc16) AllReadyJ.nil
              case hoc16 => simp only [List.getElem?_toArray, List.getElem?_cons_zero, List.getElem?_cons_succ]; rfl
              clear hHeld
              refine step_append_elder _ (by rfl) _ _ 24 (by rfl) wx.heap.size 3 i0 (.int .i64 0) 1 8 Tryz.underlying24 hi hz0 hz1 hz2 rfl (by decide) _ _ _ (by rfl) ho0 ⟨g3, 0, none⟩ 1 1 [.int .i64 (-1)] (by rfl) rfl hn3 (by simp [Value.oneCell']) (by unfold maxLen; omega) (by omega) hkb.size ?_
              intro v5 wpc16 hown5 hg5 hat5 _
              obtain ⟨Av5, cv5, rfl⟩ := own_slice hown5
              have hv5 := new_apartI hbl.lt hne0 ho1 hap hat5
              have hr5 : ∀ g, (Value.slice A0 (PF i9).length c0).ownBlock = some g → wx.heap.size ≤ g := fun g e => (ho0.lt g e).1
              replace t0 := grown_cell hg5 t0 hne0
              replace t1 := grown_cell hg5 t1 hne0
              replace hbl := hbl.grown hg5 hne0
              replace hL := hL.grown hg5 (own_no ho0 hLx)
              replace ho1 := own_keptv ho1 hg5 (fun g e e2 => hap g e2 e)
              replace hn8 := hn8.grown hg5 hnv8.1
              replace hw := Below.grown hw hg5 hw.size (fun g e => Nat.le_trans hwle (hr5 g e))
              replace hkb := hkb.grown hg5 hr5
              clear ho0 hn3 hr5 hg5 hat5
              refine hK9.out _ _ ⟨t0, t1, hw⟩ (fun hHeld => ?_)
              clear hK9 K9
              (try simp only [Act.put, List.setIfInBounds_toArray, List.set_cons_zero, List.set_cons_succ])
              refine wpAnyJ_pure (i := 10) (oi := ?ooc17) (v := ?vvc17) ?hic17 (by kernel_rfl) (by kernel_rfl) (by kernel_rfl) (by rfl) ?hqc17 (Or.inl ⟨?hgc17, ?hyc17⟩) ?restc17
              case hic17 => simp only [List.getElem?_toArray, List.getElem?_cons_zero, List.getElem?_cons_succ]; rfl
              case hqc17 => exact fun _ _ _ h => h
              case hgc17 => rfl
              case hyc17 =>
                intro wq _
                go_simp
                (try with_reducible rfl)
              (try simp only [Act.put, List.setIfInBounds_toArray, List.set_cons_zero, List.set_cons_succ])
              refine wpAnyJ_ready (rs := [9]) (by kernel_rfl) (by simp) ?_
              refine AllReadyJ.cons (i := 9) (o := ?ooc18) ?hoc18 (fun K9 hK9 => ?hstepc18) AllReadyJ.nil
              case hoc18 => simp only [List.getElem?_toArray, List.getElem?_cons_zero, List.getElem?_cons_succ]; rfl
              clear hHeld
              refine step_append_elder _ (by rfl) _ _ 24 (by rfl) wx.heap.size 3 i0 (.int .i64 0) 1 8 Tryz.underlying24 hi hz0 hz1 hz2 rfl (by decide) _ _ _ (by rfl) ho1 ⟨g8, 0, none⟩ 1 1 [.int .i64 (nth SU i9)] (by rfl) rfl hn8 (by simp [Value.oneCell']) (by unfold maxLen; omega) (by omega) hkb.size ?_
              intro v7 wpc18 hown7 hg7 hat7 _
              obtain ⟨Av7, cv7, rfl⟩ := own_slice hown7
              have hv7 : (Value.slice Av7 ((WF i9).length + 1) cv7).ownBlock ≠ some gT ∧ ∀ g, (Value.slice Av5 ((PF i9).length + 1) cv5).ownBlock = some g → (Value.slice Av7 ((WF i9).length + 1) cv7).ownBlock ≠ some g := by
                have h := new_apartI hbl.lt hne1 hown5 (fun g e e2 => hv5.2 g e2 e) hat7
                exact ⟨h.1, fun g e e2 => h.2 g e2 e⟩
              have hr7 : ∀ g, (Value.slice A1 (WF i9).length c1).ownBlock = some g → wx.heap.size ≤ g := fun g e => (ho1.lt g e).1
              replace t0 := grown_cell hg7 t0 hne1
              replace t1 := grown_cell hg7 t1 hne1
              replace hbl := hbl.grown hg7 hne1
              replace hL := hL.grown hg7 (own_no ho1 hLx)
              replace hown5 := own_keptv hown5 hg7 (fun g e e2 => hv5.2 g e e2)
              replace hw := Below.grown hw hg7 hw.size (fun g e => Nat.le_trans hwle (hr7 g e))
              replace hkb := hkb.grown hg7 hr7
              clear ho1 hn8 hr7 hg7 hat7
              refine hK9.out _ _ ⟨t0, t1, hw⟩ (fun hHeld => ?_)
              clear hK9 K9
              (try simp only [Act.put, List.setIfInBounds_toArray, List.set_cons_zero, List.set_cons_succ])
              refine wpAnyJ_ready (rs := [11]) (by kernel_rfl) (by simp) ?_
              refine AllReadyJ.free (i := 11) (o := ?ooc19) ?hoc19 (by rfl) (fun K9 hK9 => ?hstepc19) AllReadyJ.nil
              case hoc19 => simp only [List.getElem?_toArray, List.getElem?_cons_zero, List.getElem?_cons_succ]; rfl
              have hff := hbl.free 0
              go_simp
              refine hK9.out _ _ trivial (fun _ => ?_)
              clear hK9 K9
              (try simp only [Act.put, List.setIfInBounds_toArray, List.set_cons_zero, List.set_cons_succ])
              refine wpAnyJ_call (fun wvc19 hwz => ?_)
              replace hbl := hbl.set0 (Value.slice Av5 ((PF i9).length + 1) cv5)
              replace hL := RowX.far (q := gT) (j := 0) (v := (Value.slice Av5 ((PF i9).length + 1) cv5)) hL hTL.symm
              replace hown5 := own_keptv hown5 (grown_set1 _ gT 0 (Value.slice Av5 ((PF i9).length + 1) cv5)) (fun g e e2 => hv5.1 (by rw [e, ← e2]))
              replace hown7 := own_keptv hown7 (grown_set1 _ gT 0 (Value.slice Av5 ((PF i9).length + 1) cv5)) (fun g e e2 => hv7.1 (by rw [e, ← e2]))
              replace hkb := hkb.set0 0 (Value.slice Av5 ((PF i9).length + 1) cv5)
              replace hw := Below.setCell' (p := ⟨gT, 0, none⟩) hwT hw (Value.slice Av5 ((PF i9).length + 1) cv5)
              rw [← hwz] at hbl hL hown5 hown7 hkb hw
              clear t0 t1 hff
              have t0 := hbl.c0
              have t1 := hbl.c1
              clear hwz
              refine wpAnyJ_pure (i := 12) (oi := ?ooc20) (v := ?vvc20) ?hic20 (by kernel_rfl) (by kernel_rfl) (by kernel_rfl) (by rfl) ?hqc20 (Or.inl ⟨?hgc20, ?hyc20⟩) ?restc20
              case hic20 => simp only [List.getElem?_toArray, List.getElem?_cons_zero, List.getElem?_cons_succ]; rfl
              case hqc20 => exact fun _ _ _ h => h
              case hgc20 => rfl
              case hyc20 =>
                intro wq _
                go_simp
                (try with_reducible rfl)
              (try simp only [Act.put, List.setIfInBounds_toArray, List.set_cons_zero, List.set_cons_succ])
              refine wpAnyJ_ready (rs := [13]) (by kernel_rfl) (by simp) ?_
              refine AllReadyJ.free (i := 13) (o := ?ooc21) ?hoc21 (by rfl) (fun K9 hK9 => ?hstepc21) AllReadyJ.nil
              case hoc21 => simp only [List.getElem?_toArray, List.getElem?_cons_zero, List.getElem?_cons_succ]; rfl
              have hff := hbl.free 1
              go_simp
              refine hK9.out _ _ trivial (fun _ => ?_)
              clear hK9 K9
              (try simp only [Act.put, List.setIfInBounds_toArray, List.set_cons_zero, List.set_cons_succ])
              refine wpAnyJ_call (fun wvc21 hwz => ?_)
              replace hbl := hbl.set1 (Value.slice Av7 ((WF i9).length + 1) cv7)
              replace hL := RowX.far (q := gT) (j := 1) (v := (Value.slice Av7 ((WF i9).length + 1) cv7)) hL hTL.symm
              replace hown5 := own_keptv hown5 (grown_set1 _ gT 1 (Value.slice Av7 ((WF i9).length + 1) cv7)) (fun g e e2 => hv5.1 (by rw [e, ← e2]))
              replace hown7 := own_keptv hown7 (grown_set1 _ gT 1 (Value.slice Av7 ((WF i9).length + 1) cv7)) (fun g e e2 => hv7.1 (by rw [e, ← e2]))
              replace hkb := hkb.set0 1 (Value.slice Av7 ((WF i9).length + 1) cv7)
              replace hw := Below.setCell' (p := ⟨gT, 1, none⟩) hwT hw (Value.slice Av7 ((WF i9).length + 1) cv7)
              rw [← hwz] at hbl hL hown5 hown7 hkb hw
              clear t0 t1 hff
              have t0 := hbl.c0
              have t1 := hbl.c1
              clear hwz
              clear hHeld
              refine wpAnyJ_done (by kernel_rfl) ?_ _
              have h4 : Two wvc21 wx.heap.size gT (Value.slice Av5 ((PF i9).length + 1) cv5) (Value.slice Av7 ((WF i9).length + 1) cv7) ((PF i9).length + 1) ((WF i9).length + 1) (PF (i9 + 1)) (WF (i9 + 1)) := ⟨hbl, by rw [HPy.out _ hkp, hPR.out, i64s_app]; exact hown5, by rw [HWy.out _ hkp, hWT.out, i64s_app]; exact hown7, hv5.1, hv7.1, hv7.2⟩
              have HL1 : Hid ((PF i9).length + 1 = (PF (i9 + 1)).length) := by rw [HPy.out _ hkp]; exact Lib.hid (by simp)
              have HL2 : Hid ((WF i9).length + 1 = (WF (i9 + 1)).length) := by rw [HWy.out _ hkp]; exact Lib.hid (by simp)
              clear hbl hown5 hown7 t0 t1
              (try clear hcU)
              (try clear hcA)
              (try clear hAe)
              (try clear hx0')
              (try clear j0 j1 i4)
              go_wp2
              go_roundw
              case rel => first | exact ⟨i9 + 1, hlt, by omega, ⟨_, _, by rw [← HL1.out, ← HL2.out]; exact h4⟩, hL, hkb⟩ | exact ⟨i9 + 1, _, _, hlt, by go_num, by rw [← HL1.out, ← HL2.out]; exact h4, hL, hkb⟩
              case measure => simp [intOf]; exact Nat.sub_lt_sub_left hlt (Nat.lt_succ_self _)
            exact AllReadyJ.nil
          refine AllReadyJ.cons (i := 8) (o := ?ooc22) ?hoc22 (fun K9 hK9 => ?hstepc22) ?morec22
          case hoc22 => simp only [List.getElem?_toArray, List.getElem?_cons_zero, List.getElem?_cons_succ]; rfl
          case hstepc22 =>
            go_simp
            clear hHeld
            refine hK9.out _ _ ⟨keep_cell (Below.drew ((Below.refl wz.heap.size wz).alloc (Nat.le_refl _) _)) t0, keep_cell (Below.drew ((Below.refl wz.heap.size wz).alloc (Nat.le_refl _) _)) t1, Below.drew (keep_below_alloc hw _)⟩ (fun hHeld => ?_)
            clear hK9 K9
            (try simp only [Act.put, List.setIfInBounds_toArray, List.set_cons_zero, List.set_cons_succ])
            refine wpAnyJ_name hHeld (fun wac22 hHa hwz => ?_)
            have hbA : Below wz.heap.size wz wac22 := by rw [hwz]; exact Below.drew ((Below.refl wz.heap.size wz).alloc (Nat.le_refl _) _)
            have hn8 : NewsAt wac22 wz.heap.size (.int .i64 (nth SU i9)) := by rw [hwz]; exact World.news_of_block (cs := #[.int .i64 (nth SU i9)]) (t := 3) (fr := (0, 0)) (heap_alloc_new _ _)
            have hnv8 : (Value.slice A0 (PF i9).length c0).ownBlock ≠ some wz.heap.size ∧ (Value.slice A1 (WF i9).length c1).ownBlock ≠ some wz.heap.size := ⟨fun e => by have := (ho0.lt _ e).2; omega, fun e => by have := (ho1.lt _ e).2; omega⟩
            replace t0 := keep_cell hbA t0
            replace t1 := keep_cell hbA t1
            replace hbl := hbl.below hbA
            replace ho0 := own_below ho0 hbA
            replace ho1 := own_below ho1 hbA
            replace hkb := hkb.below hbA
            replace hL := hL.below hbA
            replace hw := keep_below hbA hw
            generalize wz.heap.size = g8 at hn8 hnv8 ⊢
            clear hHeld hbA hwz
            have hHeld := hHa
            clear hHa
            refine wpAnyJ_ready (rs := [3]) (by kernel_rfl) (by simp) ?_
            refine AllReadyJ.cons (i := 3) (o := ?ooc23) ?hoc23 (fun K9 hK9 => ?hstepc23) AllReadyJ.nil
            case hoc23 => simp only [List.getElem?_toArray, List.getElem?_cons_zero, List.getElem?_cons_succ]; rfl
            go_simp
            clear hHeld
            refine hK9.out _ _ ⟨keep_cell ((Below.refl wac22.heap.size wac22).alloc (Nat.le_refl _) _) t0, keep_cell ((Below.refl wac22.heap.size wac22).alloc (Nat.le_refl _) _) t1, keep_below_alloc hw _⟩ (fun hHeld => ?_)
            clear hK9 K9
            (try simp only [Act.put, List.setIfInBounds_toArray, List.set_cons_zero, List.set_cons_succ])
            refine wpAnyJ_name hHeld (fun wac23 hHa hwz => ?_)
            have hbA : Below wac22.heap.size wac22 wac23 := by rw [hwz]; exact (Below.refl wac22.heap.size wac22).alloc (Nat.le_refl _) _
            have hn3 : NewsAt wac23 wac22.heap.size (.int .i64 (-1)) := by rw [hwz]; exact World.news_of_block (cs := #[.int .i64 (-1)]) (t := 3) (fr := (0, 0)) (heap_alloc_new _ _)
            have hnv3 : (Value.slice A0 (PF i9).length c0).ownBlock ≠ some wac22.heap.size ∧ (Value.slice A1 (WF i9).length c1).ownBlock ≠ some wac22.heap.size := ⟨fun e => by have := (ho0.lt _ e).2; omega, fun e => by have := (ho1.lt _ e).2; omega⟩
            replace t0 := keep_cell hbA t0
            replace t1 := keep_cell hbA t1
            replace hbl := hbl.below hbA
            replace ho0 := own_below ho0 hbA
            replace ho1 := own_below ho1 hbA
            replace hkb := hkb.below hbA
            replace hL := hL.below hbA
            replace hn8 := hn8.below hbA
            replace hw := keep_below hbA hw
            generalize wac22.heap.size = g3 at hn3 hnv3 ⊢
            clear hHeld hbA hwz
            have hHeld := hHa
            clear hHa
            refine wpAnyJ_ready (rs := [4]) (by kernel_rfl) (by simp) ?_
            refine AllReadyJ.cons (i := 4) (o := ?ooc24) ?hoc24 (fun K9 hK9 => ?hstepc24) AllReadyJ.nil
            case hoc24 => simp only [List.getElem?_toArray, List.getElem?_cons_zero, List.getElem?_cons_succ]; rfl
            clear hHeld
            refine step_append_elder _ (by rfl) _ _ 24 (by rfl) wx.heap.size 3 i0 (.int .i64 0) 1 8 Tryz.underlying24 hi hz0 hz1 hz2 rfl (by decide) _ _ _ (by rfl) ho0 ⟨g3, 0, none⟩ 1 1 [.int .i64 (-1)] (by rfl) rfl hn3 (by simp [Value.oneCell']) (by unfold maxLen; omega) (by omega) hkb.size ?_
            intro v5 wpc24 hown5 hg5 hat5 _
            obtain ⟨Av5, cv5, rfl⟩ := own_slice hown5
            have hv5 := new_apartI hbl.lt hne0 ho1 hap hat5
            have hr5 : ∀ g, (Value.slice A0 (PF i9).length c0).ownBlock = some g → wx.heap.size ≤ g := fun g e => (ho0.lt g e).1
            replace t0 := grown_cell hg5 t0 hne0
            replace t1 := grown_cell hg5 t1 hne0
            replace hbl := hbl.grown hg5 hne0
            replace hL := hL.grown hg5 (own_no ho0 hLx)
            replace ho1 := own_keptv ho1 hg5 (fun g e e2 => hap g e2 e)
            replace hn8 := hn8.grown hg5 hnv8.1
            replace hw := Below.grown hw hg5 hw.size (fun g e => Nat.le_trans hwle (hr5 g e))
            replace hkb := hkb.grown hg5 hr5
            clear ho0 hn3 hr5 hg5 hat5
            refine hK9.out _ _ ⟨t0, t1, hw⟩ (fun hHeld => ?_)
            clear hK9 K9
            (try simp only [Act.put, List.setIfInBounds_toArray, List.set_cons_zero, List.set_cons_succ])
            refine wpAnyJ_pure (i := 10) (oi := ?ooc25) (v := ?vvc25) ?hic25 (by kernel_rfl) (by kernel_rfl) (by kernel_rfl) (by rfl) ?hqc25 (Or.inl ⟨?hgc25, ?hyc25⟩) ?restc25
            case hic25 => simp only [List.getElem?_toArray, List.getElem?_cons_zero, List.getElem?_cons_succ]; rfl
            case hqc25 => exact fun _ _ _ h => h
            case hgc25 => rfl
            case hyc25 =>
              intro wq _
              go_simp
              (try with_reducible rfl)
            (try simp only [Act.put, List.setIfInBounds_toArray, List.set_cons_zero, List.set_cons_succ])
            refine wpAnyJ_ready (rs := [9]) (by kernel_rfl) (by simp) ?_
            refine AllReadyJ.cons (i := 9) (o := ?ooc26) ?hoc26 (fun K9 hK9 => ?hstepc26) AllReadyJ.nil
            case hoc26 => simp only [List.getElem?_toArray, List.getElem?_cons_zero, List.getElem?_cons_succ]; rfl
            clear hHeld
            refine step_append_elder _ (by rfl) _ _ 24 (by rfl) wx.heap.size 3 i0 (.int .i64 0) 1 8 Tryz.underlying24 hi hz0 hz1 hz2 rfl (by decide) _ _ _ (by rfl) ho1 ⟨g8, 0, none⟩ 1 1 [.int .i64 (nth SU i9)] (by rfl) rfl hn8 (by simp [Value.oneCell']) (by unfold maxLen; omega) (by omega) hkb.size ?_
            intro v7 wpc26 hown7 hg7 hat7 _
            obtain ⟨Av7, cv7, rfl⟩ := own_slice hown7
            have hv7 : (Value.slice Av7 ((WF i9).length + 1) cv7).ownBlock ≠ some gT ∧ ∀ g, (Value.slice Av5 ((PF i9).length + 1) cv5).ownBlock = some g → (Value.slice Av7 ((WF i9).length + 1) cv7).ownBlock ≠ some g := by
              have h := new_apartI hbl.lt hne1 hown5 (fun g e e2 => hv5.2 g e2 e) hat7
              exact ⟨h.1, fun g e e2 => h.2 g e2 e⟩
            have hr7 : ∀ g, (Value.slice A1 (WF i9).length c1).ownBlock = some g → wx.heap.size ≤ g := fun g e => (ho1.lt g e).1
            replace t0 := grown_cell hg7 t0 hne1
            replace t1 := grown_cell hg7 t1 hne1
            replace hbl := hbl.grown hg7 hne1
            replace hL := hL.grown hg7 (own_no ho1 hLx)
            replace hown5 := own_keptv hown5 hg7 (fun g e e2 => hv5.2 g e e2)
            replace hw := Below.grown hw hg7 hw.size (fun g e => Nat.le_trans hwle (hr7 g e))
            replace hkb := hkb.grown hg7 hr7
            clear ho1 hn8 hr7 hg7 hat7
            refine hK9.out _ _ ⟨t0, t1, hw⟩ (fun hHeld => ?_)
            clear hK9 K9
            (try simp only [Act.put, List.setIfInBounds_toArray, List.set_cons_zero, List.set_cons_succ])
            refine wpAnyJ_ready (rs := [11]) (by kernel_rfl) (by simp) ?_
            refine AllReadyJ.free (i := 11) (o := ?ooc27) ?hoc27 (by rfl) (fun K9 hK9 => ?hstepc27) AllReadyJ.nil
            case hoc27 => simp only [List.getElem?_toArray, List.getElem?_cons_zero, List.getElem?_cons_succ]; rfl
            have hff := hbl.free 0
            go_simp
            refine hK9.out _ _ trivial (fun _ => ?_)
            clear hK9 K9
            (try simp only [Act.put, List.setIfInBounds_toArray, List.set_cons_zero, List.set_cons_succ])
            refine wpAnyJ_call (fun wvc27 hwz => ?_)
            replace hbl := hbl.set0 (Value.slice Av5 ((PF i9).length + 1) cv5)
            replace hL := RowX.far (q := gT) (j := 0) (v := (Value.slice Av5 ((PF i9).length + 1) cv5)) hL hTL.symm
            replace hown5 := own_keptv hown5 (grown_set1 _ gT 0 (Value.slice Av5 ((PF i9).length + 1) cv5)) (fun g e e2 => hv5.1 (by rw [e, ← e2]))
            replace hown7 := own_keptv hown7 (grown_set1 _ gT 0 (Value.slice Av5 ((PF i9).length + 1) cv5)) (fun g e e2 => hv7.1 (by rw [e, ← e2]))
            replace hkb := hkb.set0 0 (Value.slice Av5 ((PF i9).length + 1) cv5)
            replace hw := Below.setCell' (p := ⟨gT, 0, none⟩) hwT hw (Value.slice Av5 ((PF i9).length + 1) cv5)
            rw [← hwz] at hbl hL hown5 hown7 hkb hw
            clear t0 t1 hff
            have t0 := hbl.c0
            have t1 := hbl.c1
            clear hwz
            refine wpAnyJ_pure (i := 12) (oi := ?ooc28) (v := ?vvc28) ?hic28 (by kernel_rfl) (by kernel_rfl) (by kernel_rfl) (by rfl) ?hqc28 (Or.inl ⟨?hgc28, ?hyc28⟩) ?restc28
            case hic28 => simp only [List.getElem?_toArray, List.getElem?_cons_zero, List.getElem?_cons_succ]; rfl
            case hqc28 => exact fun _ _ _ h => h
            case hgc28 => rfl
            case hyc28 =>
              intro wq _
              go_simp
              (try with_reducible rfl)
            (try simp only [Act.put, List.setIfInBounds_toArray, List.set_cons_zero, List.set_cons_succ])
            refine wpAnyJ_ready (rs := [13]) (by kernel_rfl) (by simp) ?_
            refine AllReadyJ.free (i := 13) (o := ?ooc29) ?hoc29 (by rfl) (fun K9 hK9 => ?hstepc29) AllReadyJ.nil
            case hoc29 => simp only [List.getElem?_toArray, List.getElem?_cons_zero, List.getElem?_cons_succ]; rfl
            have hff := hbl.free 1
            go_simp
            refine hK9.out _ _ trivial (fun _ => ?_)
            clear hK9 K9
            (try simp only [Act.put, List.setIfInBounds_toArray, List.set_cons_zero, List.set_cons_succ])
            refine wpAnyJ_call (fun wvc29 hwz => ?_)
            replace hbl := hbl.set1 (Value.slice Av7 ((WF i9).length + 1) cv7)
            replace hL := RowX.far (q := gT) (j := 1) (v := (Value.slice Av7 ((WF i9).length + 1) cv7)) hL hTL.symm
            replace hown5 := own_keptv hown5 (grown_set1 _ gT 1 (Value.slice Av7 ((WF i9).length + 1) cv7)) (fun g e e2 => hv5.1 (by rw [e, ← e2]))
            replace hown7 := own_keptv hown7 (grown_set1 _ gT 1 (Value.slice Av7 ((WF i9).length + 1) cv7)) (fun g e e2 => hv7.1 (by rw [e, ← e2]))
            replace hkb := hkb.set0 1 (Value.slice Av7 ((WF i9).length + 1) cv7)
            replace hw := Below.setCell' (p := ⟨gT, 1, none⟩) hwT hw (Value.slice Av7 ((WF i9).length + 1) cv7)
            rw [← hwz] at hbl hL hown5 hown7 hkb hw
            clear t0 t1 hff
            have t0 := hbl.c0
            have t1 := hbl.c1
            clear hwz
            clear hHeld
            refine wpAnyJ_done (by kernel_rfl) ?_ _
            have h4 : Two wvc29 wx.heap.size gT (Value.slice Av5 ((PF i9).length + 1) cv5) (Value.slice Av7 ((WF i9).length + 1) cv7) ((PF i9).length + 1) ((WF i9).length + 1) (PF (i9 + 1)) (WF (i9 + 1)) := ⟨hbl, by rw [HPy.out _ hkp, hPR.out, i64s_app]; exact hown5, by rw [HWy.out _ hkp, hWT.out, i64s_app]; exact hown7, hv5.1, hv7.1, hv7.2⟩
            have HL1 : Hid ((PF i9).length + 1 = (PF (i9 + 1)).length) := by rw [HPy.out _ hkp]; exact Lib.hid (by simp)
            have HL2 : Hid ((WF i9).length + 1 = (WF (i9 + 1)).length) := by rw [HWy.out _ hkp]; exact Lib.hid (by simp)
            clear hbl hown5 hown7 t0 t1
            (try clear hcU)
            (try clear hcA)
            (try clear hAe)
            (try clear hx0')
            (try clear j0 j1 i4)
            go_wp2
            go_roundw
            case rel => first | exact ⟨i9 + 1, hlt, by omega, ⟨_, _, by rw [← HL1.out, ← HL2.out]; exact h4⟩, hL, hkb⟩ | exact ⟨i9 + 1, _, _, hlt, by go_num, by rw [← HL1.out, ← HL2.out]; exact h4, hL, hkb⟩
            case measure => simp [intOf]; exact Nat.sub_lt_sub_left hlt (Nat.lt_succ_self _)
          exact AllReadyJ.nil
        have hen2 : EN i9 = false := by simpa using hen
        have hWT : Hid (WT i9 = 0) := Lib.hid (hWi.2 hdd hen2)
        rw [hen2] at hcE
        clear hWi hkd hdd hen hen2
        go_upto_region 15 with (fail)
        have hbl := h2.blk
        have ho0 := h2.own0
        have ho1 := h2.own1
        have hne0 := h2.ne0
        have hne1 := h2.ne1
        have hap := h2.ap
        have t0 := hbl.c0
        have t1 := hbl.c1
        clear h2
        refine wp_region_J (S := fun w' => w'.cell? ⟨gT, 0, none⟩ = some (.slice A0 (PF i9).length c0) ∧ w'.cell? ⟨gT, 1, none⟩ = some (.slice A1 (WF i9).length c1) ∧ Below w.heap.size w w') (fun j => j == 1 || j == 3 || j == 4 || j == 6 || j == 8 || j == 9) (by kernel_rfl) ⟨t0, t1, hw.drew⟩ (fun hHeld => ?_)
        refine wpAnyJ_pure (i := 0) (oi := ?ood1) (v := ?vvd1) ?hid1 (by kernel_rfl) (by kernel_rfl) (by kernel_rfl) (by rfl) ?hqd1 (Or.inl ⟨?hgd1, ?hyd1⟩) ?restd1
        case hid1 => simp only [List.getElem?_toArray, List.getElem?_cons_zero]; rfl
        case hqd1 => exact fun _ _ _ h => h
        case hgd1 => rfl
        case hyd1 =>
          intro wq _
          go_simp
          (try with_reducible rfl)
        (try simp only [Act.put, List.setIfInBounds_toArray, List.set_cons_zero, List.set_cons_succ])
        refine wpAnyJ_pure (i := 2) (oi := ?ood2) (v := ?vvd2) ?hid2 (by kernel_rfl) (by kernel_rfl) (by kernel_rfl) (by rfl) ?hqd2 (Or.inl ⟨?hgd2, ?hyd2⟩) ?restd2
        case hid2 => simp only [List.getElem?_toArray, List.getElem?_cons_zero, List.getElem?_cons_succ]; rfl
        case hqd2 => exact fun _ _ _ h => h
        case hgd2 => rfl
        case hyd2 =>
          intro wq _
          go_simp
          (try with_reducible rfl)
        (try simp only [Act.put, List.setIfInBounds_toArray, List.set_cons_zero, List.set_cons_succ])
        refine wpAnyJ_pure (i := 5) (oi := ?ood3) (v := ?vvd3) ?hid3 (by kernel_rfl) (by kernel_rfl) (by kernel_rfl) (by rfl) ?hqd3 (Or.inl ⟨?hgd3, ?hyd3⟩) ?restd3
        case hid3 => simp only [List.getElem?_toArray, List.getElem?_cons_zero, List.getElem?_cons_succ]; rfl
        case hqd3 => exact fun _ _ _ h => h
        case hgd3 => rfl
        case hyd3 =>
          intro wq _
          go_simp
          (try with_reducible rfl)
        (try simp only [Act.put, List.setIfInBounds_toArray, List.set_cons_zero, List.set_cons_succ])
        refine wpAnyJ_pure (i := 7) (oi := ?ood4) (v := ?vvd4) ?hid4 (by kernel_rfl) (by kernel_rfl) (by kernel_rfl) (by rfl) ?hqd4 (Or.inl ⟨?hgd4, ?hyd4⟩) ?restd4
        case hid4 => simp only [List.getElem?_toArray, List.getElem?_cons_zero, List.getElem?_cons_succ]; rfl
        case hqd4 => exact fun _ _ _ h => h
        case hgd4 => rfl
        case hyd4 =>
          intro wq _
          go_simp
          (try with_reducible rfl)
        (try simp only [Act.put, List.setIfInBounds_toArray, List.set_cons_zero, List.set_cons_succ])
        refine wpAnyJ_take (i := 1) (oi := ?ood5) (v := ?vvd5) ?hid5 (by kernel_rfl) (by kernel_rfl) (by kernel_rfl) (by kernel_rfl) ?hqd5 (Or.inl ⟨?hgd5, ?hyd5⟩) (by assumption) ?restd5
        case hid5 => simp only [List.getElem?_toArray, List.getElem?_cons_zero, List.getElem?_cons_succ]; rfl
        case hqd5 => exact fun _ _ _ h => h
        case hgd5 => rfl
        case hyd5 =>
          intro wq hSw
          obtain ⟨t0, t1, hw⟩ := hSw
          go_simp
          (try with_reducible rfl)
        (try simp only [Act.put, List.setIfInBounds_toArray, List.set_cons_zero, List.set_cons_succ])
        refine wpAnyJ_take (i := 6) (oi := ?ood6) (v := ?vvd6) ?hid6 (by kernel_rfl) (by kernel_rfl) (by kernel_rfl) (by kernel_rfl) ?hqd6 (Or.inl ⟨?hgd6, ?hyd6⟩) (by assumption) ?restd6
        case hid6 => simp only [List.getElem?_toArray, List.getElem?_cons_zero, List.getElem?_cons_succ]; rfl
        case hqd6 => exact fun _ _ _ h => h
        case hgd6 => rfl
        case hyd6 =>
          intro wq hSw
          obtain ⟨t0, t1, hw⟩ := hSw
          go_simp
          (try with_reducible rfl)
        (try simp only [Act.put, List.setIfInBounds_toArray, List.set_cons_zero, List.set_cons_succ])
        refine wpAnyJ_ready (rs := [3, 8]) (by kernel_rfl) (by simp) ?_
        refine AllReadyJ.cons (i := 3) (o := ?ood7) ?hod7 (fun K9 hK9 => ?hstepd7) ?mored7
        case hod7 => simp only [List.getElem?_toArray, List.getElem?_cons_zero, List.getElem?_cons_succ]; rfl
        case hstepd7 =>
          go_simp
          clear hHeld
          refine hK9.out _ _ ⟨keep_cell (Below.drew ((Below.refl wz.heap.size wz).alloc (Nat.le_refl _) _)) t0, keep_cell (Below.drew ((Below.refl wz.heap.size wz).alloc (Nat.le_refl _) _)) t1, Below.drew (keep_below_alloc hw _)⟩ (fun hHeld => ?_)
          clear hK9 K9
          (try simp only [Act.put, List.setIfInBounds_toArray, List.set_cons_zero, List.set_cons_succ])
          refine wpAnyJ_name hHeld (fun wad7 hHa hwz => ?_)
          have hbA : Below wz.heap.size wz wad7 := by rw [hwz]; exact Below.drew ((Below.refl wz.heap.size wz).alloc (Nat.le_refl _) _)
          have hn3 : NewsAt wad7 wz.heap.size (.int .i64 (-1)) := by rw [hwz]; exact World.news_of_block (cs := #[.int .i64 (-1)]) (t := 3) (fr := (0, 0)) (heap_alloc_new _ _)
          have hnv3 : (Value.slice A0 (PF i9).length c0).ownBlock ≠ some wz.heap.size ∧ (Value.slice A1 (WF i9).length c1).ownBlock ≠ some wz.heap.size := ⟨fun e => by have := (ho0.lt _ e).2; omega, fun e => by have := (ho1.lt _ e).2; omega⟩
          replace t0 := keep_cell hbA t0
          replace t1 := keep_cell hbA t1
          replace hbl := hbl.below hbA
          replace ho0 := own_below ho0 hbA
          replace ho1 := own_below ho1 hbA
          replace hkb := hkb.below hbA
          replace hL := hL.below hbA
          replace hw := keep_below hbA hw
          generalize wz.heap.size = g3 at hn3 hnv3 ⊢
          clear hHeld hbA hwz
          have hHeld := hHa
          clear hHa
          refine wpAnyJ_ready (rs := [4, 8]) (by kernel_rfl) (by simp) ?_
          refine AllReadyJ.cons (i := 4) (o := ?ood8) ?hod8 (fun K9 hK9 => ?hstepd8) ?mored8
          case hod8 => simp only [List.getElem?_toArray, List.getElem?_cons_zero, List.getElem?_cons_succ]; rfl
          case hstepd8 =>
            clear hHeld
            refine step_append_elder _ (by rfl) _ _ 24 (by rfl) wx.heap.size 3 i0 (.int .i64 0) 1 8 Tryz.underlying24 hi hz0 hz1 hz2 rfl (by decide) _ _ _ (by rfl) ho0 ⟨g3, 0, none⟩ 1 1 [.int .i64 (-1)] (by rfl) rfl hn3 (by simp [Value.oneCell']) (by unfold maxLen; omega) (by omega) hkb.size ?_
            intro v5 wpd8 hown5 hg5 hat5 _
            obtain ⟨Av5, cv5, rfl⟩ := own_slice hown5
            have hv5 := new_apartI hbl.lt hne0 ho1 hap hat5
            have hr5 : ∀ g, (Value.slice A0 (PF i9).length c0).ownBlock = some g → wx.heap.size ≤ g := fun g e => (ho0.lt g e).1
            replace t0 := grown_cell hg5 t0 hne0
            replace t1 := grown_cell hg5 t1 hne0
            replace hbl := hbl.grown hg5 hne0
            replace hL := hL.grown hg5 (own_no ho0 hLx)
            replace ho1 := own_keptv ho1 hg5 (fun g e e2 => hap g e2 e)
            replace hw := Below.grown hw hg5 hw.size (fun g e => Nat.le_trans hwle (hr5 g e))
            replace hkb := hkb.grown hg5 hr5
            clear ho0 hn3 hr5 hg5 hat5
            refine hK9.out _ _ ⟨t0, t1, hw⟩ (fun hHeld => ?_)
            clear hK9 K9
            (try simp only [Act.put, List.setIfInBounds_toArray, List.set_cons_zero, List.set_cons_succ])
            refine wpAnyJ_pure (i := 10) (oi := ?ood9) (v := ?vvd9) ?hid9 (by kernel_rfl) (by kernel_rfl) (by kernel_rfl) (by rfl) ?hqd9 (Or.inl ⟨?hgd9, ?hyd9⟩) ?restd9
            case hid9 => simp only [List.getElem?_toArray, List.getElem?_cons_zero, List.getElem?_cons_succ]; rfl
            case hqd9 => exact fun _ _ _ h => h
            case hgd9 => rfl
            case hyd9 =>
              intro wq _
              go_simp
              (try with_reducible rfl)
            (try simp only [Act.put, List.setIfInBounds_toArray, List.set_cons_zero, List.set_cons_succ])
            refine wpAnyJ_ready (rs := [8]) (by kernel_rfl) (by simp) ?_
            refine AllReadyJ.cons (i := 8) (o := ?ood10) ?hod10 (fun K9 hK9 => ?hstepd10) AllReadyJ.nil
            case hod10 => simp only [List.getElem?_toArray, List.getElem?_cons_zero, List.getElem?_cons_succ]; rfl
            go_simp
            clear hHeld
            refine hK9.out _ _ ⟨keep_cell ((Below.refl wpd8.heap.size wpd8).alloc (Nat.le_refl _) _) t0, keep_cell ((Below.refl wpd8.heap.size wpd8).alloc (Nat.le_refl _) _) t1, keep_below_alloc hw _⟩ (fun hHeld => ?_)
            clear hK9 K9
            (try simp only [Act.put, List.setIfInBounds_toArray, List.set_cons_zero, List.set_cons_succ])
            refine wpAnyJ_name hHeld (fun wad10 hHa hwz => ?_)
            have hbA : Below wpd8.heap.size wpd8 wad10 := by rw [hwz]; exact (Below.refl wpd8.heap.size wpd8).alloc (Nat.le_refl _) _
            have hn8 : NewsAt wad10 wpd8.heap.size (.int .i64 0) := by rw [hwz]; exact World.news_of_block (cs := #[.int .i64 0]) (t := 3) (fr := (0, 0)) (heap_alloc_new _ _)
            have hnv8 : True ∧ (Value.slice A1 (WF i9).length c1).ownBlock ≠ some wpd8.heap.size := ⟨trivial, fun e => by have := (ho1.lt _ e).2; omega⟩
            replace t0 := keep_cell hbA t0
            replace t1 := keep_cell hbA t1
            replace hbl := hbl.below hbA
            replace ho1 := own_below ho1 hbA
            replace hkb := hkb.below hbA
            replace hL := hL.below hbA
            replace hown5 := own_below hown5 hbA
            replace hw := keep_below hbA hw
            generalize wpd8.heap.size = g8 at hn8 hnv8 ⊢
            clear hHeld hbA hwz
            have hHeld := hHa
            clear hHa
            refine wpAnyJ_ready (rs := [9]) (by kernel_rfl) (by simp) ?_
            refine AllReadyJ.cons (i := 9) (o := ?ood11) ?hod11 (fun K9 hK9 => ?hstepd11) AllReadyJ.nil
            case hod11 => simp only [List.getElem?_toArray, List.getElem?_cons_zero, List.getElem?_cons_succ]; rfl
            clear hHeld
            refine step_append_elder _ (by rfl) _ _ 24 (by rfl) wx.heap.size 3 i0 (.int .i64 0) 1 8 Tryz.underlying24 hi hz0 hz1 hz2 rfl (by decide) _ _ _ (by rfl) ho1 ⟨g8, 0, none⟩ 1 1 [.int .i64 0] (by rfl) rfl hn8 (by simp [Value.oneCell']) (by unfold maxLen; omega) (by omega) hkb.size ?_
            intro v7 wpd11 hown7 hg7 hat7 _
            obtain ⟨Av7, cv7, rfl⟩ := own_slice hown7
            have hv7 : (Value.slice Av7 ((WF i9).length + 1) cv7).ownBlock ≠ some gT ∧ ∀ g, (Value.slice Av5 ((PF i9).length + 1) cv5).ownBlock = some g → (Value.slice Av7 ((WF i9).length + 1) cv7).ownBlock ≠ some g := by
              have h := new_apartI hbl.lt hne1 hown5 (fun g e e2 => hv5.2 g e2 e) hat7
              exact ⟨h.1, fun g e e2 => h.2 g e2 e⟩
            have hr7 : ∀ g, (Value.slice A1 (WF i9).length c1).ownBlock = some g → wx.heap.size ≤ g := fun g e => (ho1.lt g e).1
            replace t0 := grown_cell hg7 t0 hne1
            replace t1 := grown_cell hg7 t1 hne1
            replace hbl := hbl.grown hg7 hne1
            replace hL := hL.grown hg7 (own_no ho1 hLx)
            replace hown5 := own_keptv hown5 hg7 (fun g e e2 => hv5.2 g e e2)
            replace hw := Below.grown hw hg7 hw.size (fun g e => Nat.le_trans hwle (hr7 g e))
            replace hkb := hkb.grown hg7 hr7
            clear ho1 hn8 hr7 hg7 hat7
            refine hK9.out _ _ ⟨t0, t1, hw⟩ (fun hHeld => ?_)
            clear hK9 K9
            (try simp only [Act.put, List.setIfInBounds_toArray, List.set_cons_zero, List.set_cons_succ])
            refine wpAnyJ_ready (rs := [11]) (by kernel_rfl) (by simp) ?_
            refine AllReadyJ.free (i := 11) (o := ?ood12) ?hod12 (by rfl) (fun K9 hK9 => ?hstepd12) AllReadyJ.nil
            case hod12 => simp only [List.getElem?_toArray, List.getElem?_cons_zero, List.getElem?_cons_succ]; rfl
            have hff := hbl.free 0
            go_simp
            refine hK9.out _ _ trivial (fun _ => ?_)
            clear hK9 K9
            (try simp only [Act.put, List.setIfInBounds_toArray, List.set_cons_zero, List.set_cons_succ])
            refine wpAnyJ_call (fun wvd12 hwz => ?_)
            replace hbl := hbl.set0 (Value.slice Av5 ((PF i9).length + 1) cv5)
            replace hL := RowX.far (q := gT) (j := 0) (v := (Value.slice Av5 ((PF i9).length + 1) cv5)) hL hTL.symm
            replace hown5 := own_keptv hown5 (grown_set1 _ gT 0 (Value.slice Av5 ((PF i9).length + 1) cv5)) (fun g e e2 => hv5.1 (by rw [e, ← e2]))
            replace hown7 := own_keptv hown7 (grown_set1 _ gT 0 (Value.slice Av5 ((PF i9).length + 1) cv5)) (fun g e e2 => hv7.1 (by rw [e, ← e2]))
            replace hkb := hkb.set0 0 (Value.slice Av5 ((PF i9).length + 1) cv5)
            replace hw := Below.setCell' (p := ⟨gT, 0, none⟩) hwT hw (Value.slice Av5 ((PF i9).length + 1) cv5)
            rw [← hwz] at hbl hL hown5 hown7 hkb hw
            clear t0 t1 hff
            have t0 := hbl.c0
            have t1 := hbl.c1
            clear hwz
            refine wpAnyJ_pure (i := 12) (oi := ?ood13) (v := ?vvd13) ?hid13 (by kernel_rfl) (by kernel_rfl) (by kernel_rfl) (by rfl) ?hqd13 (Or.inl ⟨?hgd13, ?hyd13⟩) ?restd13
            case hid13 => simp only [List.getElem?_toArray, List.getElem?_cons_zero, List.getElem?_cons_succ]; rfl
            case hqd13 => exact fun _ _ _ h => h
            case hgd13 => rfl
            case hyd13 =>
              intro wq _
              go_simp
              (try with_reducible rfl)
            (try simp only [Act.put, List.setIfInBounds_toArray, List.set_cons_zero, List.set_cons_succ])
            refine wpAnyJ_ready (rs := [13]) (by kernel_rfl) (by simp) ?_
            refine AllReadyJ.free (i := 13) (o := ?ood14) ?hod14 (by rfl) (fun K9 hK9 => ?hstepd14) AllReadyJ.nil
            case hod14 => simp only [List.getElem?_toArray, List.getElem?_cons_zero, List.getElem?_cons_succ]; rfl
            have hff := hbl.free 1
            go_simp
            refine hK9.out _ _ trivial (fun _ => ?_)
            clear hK9 K9
            (try simp only [Act.put, List.setIfInBounds_toArray, List.set_cons_zero, List.set_cons_succ])
            refine wpAnyJ_call (fun wvd14 hwz => ?_)
            replace hbl := hbl.set1 (Value.slice Av7 ((WF i9).length + 1) cv7)
            replace hL := RowX.far (q := gT) (j := 1) (v := (Value.slice Av7 ((WF i9).length + 1) cv7)) hL hTL.symm
            replace hown5 := own_keptv hown5 (grown_set1 _ gT 1 (Value.slice Av7 ((WF i9).length + 1) cv7)) (fun g e e2 => hv5.1 (by rw [e, ← e2]))
            replace hown7 := own_keptv hown7 (grown_set1 _ gT 1 (Value.slice Av7 ((WF i9).length + 1) cv7)) (fun g e e2 => hv7.1 (by rw [e, ← e2]))
            replace hkb := hkb.set0 1 (Value.slice Av7 ((WF i9).length + 1) cv7)
            replace hw := Below.setCell' (p := ⟨gT, 1, none⟩) hwT hw (Value.slice Av7 ((WF i9).length + 1) cv7)
            rw [← hwz] at hbl hL hown5 hown7 hkb hw
            clear t0 t1 hff
            have t0 := hbl.c0
            have t1 := hbl.c1
            clear hwz
            clear hHeld
            refine wpAnyJ_done (by kernel_rfl) ?_ _
            have h4 : Two wvd14 wx.heap.size gT (Value.slice Av5 ((PF i9).length + 1) cv5) (Value.slice Av7 ((WF i9).length + 1) cv7) ((PF i9).length + 1) ((WF i9).length + 1) (PF (i9 + 1)) (WF (i9 + 1)) := ⟨hbl, by rw [HPy.out _ hkp, hPR.out, i64s_app]; exact hown5, by rw [HWy.out _ hkp, hWT.out, i64s_app]; exact hown7, hv5.1, hv7.1, hv7.2⟩
            have HL1 : Hid ((PF i9).length + 1 = (PF (i9 + 1)).length) := by rw [HPy.out _ hkp]; exact Lib.hid (by simp)
            have HL2 : Hid ((WF i9).length + 1 = (WF (i9 + 1)).length) := by rw [HWy.out _ hkp]; exact Lib.hid (by simp)
            clear hbl hown5 hown7 t0 t1
            (try clear hcU)
            (try clear hcA)
            (try clear hAe)
            (try clear hx0')
            (try clear j0 j1 i4)
            go_wp2
            go_roundw
            case rel => first | exact ⟨i9 + 1, hlt, by omega, ⟨_, _, by rw [← HL1.out, ← HL2.out]; exact h4⟩, hL, hkb⟩ | exact ⟨i9 + 1, _, _, hlt, by go_num, by rw [← HL1.out, ← HL2.out]; exact h4, hL, hkb⟩
            case measure => simp [intOf]; exact Nat.sub_lt_sub_left hlt (Nat.lt_succ_self _)
          refine AllReadyJ.cons (i := 8) (o := ?ood15) ?hod15 (fun K9 hK9 => ?hstepd15) ?mored15
          case hod15 => simp only [List.getElem?_toArray, List.getElem?_cons_zero, List.getElem?_cons_succ]; rfl
          case hstepd15 =>
            go_simp
            clear hHeld
            refine hK9.out _ _ ⟨keep_cell ((Below.refl wad7.heap.size wad7).alloc (Nat.le_refl _) _) t0, keep_cell ((Below.refl wad7.heap.size wad7).alloc (Nat.le_refl _) _) t1, keep_below_alloc hw _⟩ (fun hHeld => ?_)
            clear hK9 K9
            (try simp only [Act.put, List.setIfInBounds_toArray, List.set_cons_zero, List.set_cons_succ])
            refine wpAnyJ_name hHeld (fun wad15 hHa hwz => ?_)
            have hbA : Below wad7.heap.size wad7 wad15 := by rw [hwz]; exact (Below.refl wad7.heap.size wad7).alloc (Nat.le_refl _) _
            have hn8 : NewsAt wad15 wad7.heap.size (.int .i64 0) := by rw [hwz]; exact World.news_of_block (cs := #[.int .i64 0]) (t := 3) (fr := (0, 0)) (heap_alloc_new _ _)
            have hnv8 : (Value.slice A0 (PF i9).length c0).ownBlock ≠ some wad7.heap.size ∧ (Value.slice A1 (WF i9).length c1).ownBlock ≠ some wad7.heap.size := ⟨fun e => by have := (ho0.lt _ e).2; omega, fun e => by have := (ho1.lt _ e).2; omega⟩
            replace t0 := keep_cell hbA t0
            replace t1 := keep_cell hbA t1
            replace hbl := hbl.below hbA
            replace ho0 := own_below ho0 hbA
            replace ho1 := own_below ho1 hbA
            replace hkb := hkb.below hbA
            replace hL := hL.below hbA
            replace hn3 := hn3.below hbA
            replace hw := keep_below hbA hw
            generalize wad7.heap.size = g8 at hn8 hnv8 ⊢
            clear hHeld hbA hwz
            have hHeld := hHa
            clear hHa
            refine wpAnyJ_ready (rs := [4]) (by kernel_rfl) (by simp) ?_
            refine AllReadyJ.cons (i := 4) (o := ?ood16) ?hod16 (fun K9 hK9 => ?hstepd16) AllReadyJ.nil
            case hod16 => simp only [List.getElem?_toArray, List.getElem?_cons_zero, List.getElem?_cons_succ]; rfl
            clear hHeld
            refine step_append_elder _ (by rfl) _ _ 24 (by rfl) wx.heap.size 3 i0 (.int .i64 0) 1 8 Tryz.underlying24 hi hz0 hz1 hz2 rfl (by decide) _ _ _ (by rfl) ho0 ⟨g3, 0, none⟩ 1 1 [.int .i64 (-1)] (by rfl) rfl hn3 (by simp [Value.oneCell']) (by unfold maxLen; omega) (by omega) hkb.size ?_
            intro v5 wpd16 hown5 hg5 hat5 _
            obtain ⟨Av5, cv5, rfl⟩ := own_slice hown5
            have hv5 := new_apartI hbl.lt hne0 ho1 hap hat5
            have hr5 : ∀ g, (Value.slice A0 (PF i9).length c0).ownBlock = some g → wx.heap.size ≤ g := fun g e => (ho0.lt g e).1
            replace t0 := grown_cell hg5 t0 hne0
            replace t1 := grown_cell hg5 t1 hne0
            replace hbl := hbl.grown hg5 hne0
            replace hL := hL.grown hg5 (own_no ho0 hLx)
            replace ho1 := own_keptv ho1 hg5 (fun g e e2 => hap g e2 e)
            replace hn8 := hn8.grown hg5 hnv8.1
            replace hw := Below.grown hw hg5 hw.size (fun g e => Nat.le_trans hwle (hr5 g e))
            replace hkb := hkb.grown hg5 hr5
            clear ho0 hn3 hr5 hg5 hat5
            refine hK9.out _ _ ⟨t0, t1, hw⟩ (fun hHeld => ?_)
            clear hK9 K9
            (try simp only [Act.put, List.setIfInBounds_toArray, List.set_cons_zero, List.set_cons_succ])
            refine wpAnyJ_pure (i := 10) (oi := ?ood17) (v := ?vvd17) ?hid17 (by kernel_rfl) (by kernel_rfl) (by kernel_rfl) (by rfl) ?hqd17 (Or.inl ⟨?hgd17, ?hyd17⟩) ?restd17
            case hid17 => simp only [List.getElem?_toArray, List.getElem?_cons_zero, List.getElem?_cons_succ]; rfl
            case hqd17 => exact fun _ _ _ h => h
            case hgd17 => rfl
            case hyd17 =>
              intro wq _
              go_simp
              (try with_reducible rfl)
            (try simp only [Act.put, List.setIfInBounds_toArray, List.set_cons_zero, List.set_cons_succ])
            refine wpAnyJ_ready (rs := [9]) (by kernel_rfl) (by simp) ?_
            refine AllReadyJ.cons (i := 9) (o := ?ood18) ?hod18 (fun K9 hK9 => ?hstepd18) AllReadyJ.nil
            case hod18 => simp only [List.getElem?_toArray, List.getElem?_cons_zero, List.getElem?_cons_succ]; rfl
            clear hHeld
            refine step_append_elder _ (by rfl) _ _ 24 (by rfl) wx.heap.size 3 i0 (.int .i64 0) 1 8 Tryz.underlying24 hi hz0 hz1 hz2 rfl (by decide) _ _ _ (by rfl) ho1 ⟨g8, 0, none⟩ 1 1 [.int .i64 0] (by rfl) rfl hn8 (by simp [Value.oneCell']) (by unfold maxLen; omega) (by omega) hkb.size ?_
            intro v7 wpd18 hown7 hg7 hat7 _
            obtain ⟨Av7, cv7, rfl⟩ := own_slice hown7
            have hv7 : (Value.slice Av7 ((WF i9).length + 1) cv7).ownBlock ≠ some gT ∧ ∀ g, (Value.slice Av5 ((PF i9).length + 1) cv5).ownBlock = some g → (Value.slice Av7 ((WF i9).length + 1) cv7).ownBlock ≠ some g := by
              have h := new_apartI hbl.lt hne1 hown5 (fun g e e2 => hv5.2 g e2 e) hat7
              exact ⟨h.1, fun g e e2 => h.2 g e2 e⟩
            have hr7 : ∀ g, (Value.slice A1 (WF i9).length c1).ownBlock = some g → wx.heap.size ≤ g := fun g e => (ho1.lt g e).1
            replace t0 := grown_cell hg7 t0 hne1
            replace t1 := grown_cell hg7 t1 hne1
            replace hbl := hbl.grown hg7 hne1
            replace hL := hL.grown hg7 (own_no ho1 hLx)
            replace hown5 := own_keptv hown5 hg7 (fun g e e2 => hv5.2 g e e2)
            replace hw := Below.grown hw hg7 hw.size (fun g e => Nat.le_trans hwle (hr7 g e))
            replace hkb := hkb.grown hg7 hr7
            clear ho1 hn8 hr7 hg7 hat7
            refine hK9.out _ _ ⟨t0, t1, hw⟩ (fun hHeld => ?_)
            clear hK9 K9
            (try simp only [Act.put, List.setIfInBounds_toArray, List.set_cons_zero, List.set_cons_succ])
            refine wpAnyJ_ready (rs := [11]) (by kernel_rfl) (by simp) ?_
            refine AllReadyJ.free (i := 11) (o := ?ood19) ?hod19 (by rfl) (fun K9 hK9 => ?hstepd19) AllReadyJ.nil
            case hod19 => simp only [List.getElem?_toArray, List.getElem?_cons_zero, List.getElem?_cons_succ]; rfl
            have hff := hbl.free 0
            go_simp
            refine hK9.out _ _ trivial (fun _ => ?_)
            clear hK9 K9
            (try simp only [Act.put, List.setIfInBounds_toArray, List.set_cons_zero, List.set_cons_succ])
            refine wpAnyJ_call (fun wvd19 hwz => ?_)
            replace hbl := hbl.set0 (Value.slice Av5 ((PF i9).length + 1) cv5)
            replace hL := RowX.far (q := gT) (j := 0) (v := (Value.slice Av5 ((PF i9).length + 1) cv5)) hL hTL.symm
            replace hown5 := own_keptv hown5 (grown_set1 _ gT 0 (Value.slice Av5 ((PF i9).length + 1) cv5)) (fun g e e2 => hv5.1 (by rw [e, ← e2]))
            replace hown7 := own_keptv hown7 (grown_set1 _ gT 0 (Value.slice Av5 ((PF i9).length + 1) cv5)) (fun g e e2 => hv7.1 (by rw [e, ← e2]))
            replace hkb := hkb.set0 0 (Value.slice Av5 ((PF i9).length + 1) cv5)
            replace hw := Below.setCell' (p := ⟨gT, 0, none⟩) hwT hw (Value.slice Av5 ((PF i9).length + 1) cv5)
            rw [← hwz] at hbl hL hown5 hown7 hkb hw
            clear t0 t1 hff
            have t0 := hbl.c0
            have t1 := hbl.c1
            clear hwz
            refine wpAnyJ_pure (i := 12) (oi := ?ood20) (v := ?vvd20) ?hid20 (by kernel_rfl) (by kernel_rfl) (by kernel_rfl) (by rfl) ?hqd20 (Or.inl ⟨?hgd20, ?hyd20⟩) ?restd20
            case hid20 => simp only [List.getElem?_toArray, List.getElem?_cons_zero, List.getElem?_cons_succ]; rfl
            case hqd20 => exact fun _ _ _ h => h
            case hgd20 => rfl
            case hyd20 =>
              intro wq _
              go_simp
              (try with_reducible rfl)
            (try simp only [Act.put, List.setIfInBounds_toArray, List.set_cons_zero, List.set_cons_succ])
            refine wpAnyJ_ready (rs := [13]) (by kernel_rfl) (by simp) ?_
            refine AllReadyJ.free (i := 13) (o := ?ood21) ?hod21 (by rfl) (fun K9 hK9 => ?hstepd21) AllReadyJ.nil
            case hod21 => simp only [List.getElem?_toArray, List.getElem?_cons_zero, List.getElem?_cons_succ]; rfl
            have hff := hbl.free 1
            go_simp
            refine hK9.out _ _ trivial (fun _ => ?_)
            clear hK9 K9
            (try simp only [Act.put, List.setIfInBounds_toArray, List.set_cons_zero, List.set_cons_succ])
            refine wpAnyJ_call (fun wvd21 hwz => ?_)
            replace hbl := hbl.set1 (Value.slice Av7 ((WF i9).length + 1) cv7)
            replace hL := RowX.far (q := gT) (j := 1) (v := (Value.slice Av7 ((WF i9).length + 1) cv7)) hL hTL.symm
            replace hown5 := own_keptv hown5 (grown_set1 _ gT 1 (Value.slice Av7 ((WF i9).length + 1) cv7)) (fun g e e2 => hv5.1 (by rw [e, ← e2]))
            replace hown7 := own_keptv hown7 (grown_set1 _ gT 1 (Value.slice Av7 ((WF i9).length + 1) cv7)) (fun g e e2 => hv7.1 (by rw [e, ← e2]))
            replace hkb := hkb.set0 1 (Value.slice Av7 ((WF i9).length + 1) cv7)
            replace hw := Below.setCell' (p := ⟨gT, 1, none⟩) hwT hw (Value.slice Av7 ((WF i9).length + 1) cv7)
            rw [← hwz] at hbl hL hown5 hown7 hkb hw
            clear t0 t1 hff
            have t0 := hbl.c0
            have t1 := hbl.c1
            clear hwz
            clear hHeld
            refine wpAnyJ_done (by kernel_rfl) ?_ _
            have h4 : Two wvd21 wx.heap.size gT (Value.slice Av5 ((PF i9).length + 1) cv5) (Value.slice Av7 ((WF i9).length + 1) cv7) ((PF i9).length + 1) ((WF i9).length + 1) (PF (i9 + 1)) (WF (i9 + 1)) := ⟨hbl, by rw [HPy.out _ hkp, hPR.out, i64s_app]; exact hown5, by rw [HWy.out _ hkp, hWT.out, i64s_app]; exact hown7, hv5.1, hv7.1, hv7.2⟩
            have HL1 : Hid ((PF i9).length + 1 = (PF (i9 + 1)).length) := by rw [HPy.out _ hkp]; exact Lib.hid (by simp)
            have HL2 : Hid ((WF i9).length + 1 = (WF (i9 + 1)).length) := by rw [HWy.out _ hkp]; exact Lib.hid (by simp)
            clear hbl hown5 hown7 t0 t1
            (try clear hcU)
            (try clear hcA)
            (try clear hAe)
            (try clear hx0')
            (try clear j0 j1 i4)
            go_wp2
            go_roundw
            case rel => first | exact ⟨i9 + 1, hlt, by omega, ⟨_, _, by rw [← HL1.out, ← HL2.out]; exact h4⟩, hL, hkb⟩ | exact ⟨i9 + 1, _, _, hlt, by go_num, by rw [← HL1.out, ← HL2.out]; exact h4, hL, hkb⟩
            case measure => simp [intOf]; exact Nat.sub_lt_sub_left hlt (Nat.lt_succ_self _)
          exact AllReadyJ.nil
        refine AllReadyJ.cons (i := 8) (o := ?ood22) ?hod22 (fun K9 hK9 => ?hstepd22) ?mored22
        case hod22 => simp only [List.getElem?_toArray, List.getElem?_cons_zero, List.getElem?_cons_succ]; rfl
        case hstepd22 =>
          go_simp
          clear hHeld
          refine hK9.out _ _ ⟨keep_cell (Below.drew ((Below.refl wz.heap.size wz).alloc (Nat.le_refl _) _)) t0, keep_cell (Below.drew ((Below.refl wz.heap.size wz).alloc (Nat.le_refl _) _)) t1, Below.drew (keep_below_alloc hw _)⟩ (fun hHeld => ?_)
          clear hK9 K9
          (try simp only [Act.put, List.setIfInBounds_toArray, List.set_cons_zero, List.set_cons_succ])
          refine wpAnyJ_name hHeld (fun wad22 hHa hwz => ?_)
          have hbA : Below wz.heap.size wz wad22 := by rw [hwz]; exact Below.drew ((Below.refl wz.heap.size wz).alloc (Nat.le_refl _) _)
          have hn8 : NewsAt wad22 wz.heap.size (.int .i64 0) := by rw [hwz]; exact World.news_of_block (cs := #[.int .i64 0]) (t := 3) (fr := (0, 0)) (heap_alloc_new _ _)
          have hnv8 : (Value.slice A0 (PF i9).length c0).ownBlock ≠ some wz.heap.size ∧ (Value.slice A1 (WF i9).length c1).ownBlock ≠ some wz.heap.size := ⟨fun e => by have := (ho0.lt _ e).2; omega, fun e => by have := (ho1.lt _ e).2; omega⟩
          replace t0 := keep_cell hbA t0
          replace t1 := keep_cell hbA t1
          replace hbl := hbl.below hbA
          replace ho0 := own_below ho0 hbA
          replace ho1 := own_below ho1 hbA
          replace hkb := hkb.below hbA
          replace hL := hL.below hbA
          replace hw := keep_below hbA hw
          generalize wz.heap.size = g8 at hn8 hnv8 ⊢
          clear hHeld hbA hwz
          have hHeld := hHa
          clear hHa
          refine wpAnyJ_ready (rs := [3]) (by kernel_rfl) (by simp) ?_
          refine AllReadyJ.cons (i := 3) (o := ?ood23) ?hod23 (fun K9 hK9 => ?hstepd23) AllReadyJ.nil
          case hod23 => simp only [List.getElem?_toArray, List.getElem?_cons_zero, List.getElem?_cons_succ]; rfl
          go_simp
          clear hHeld
          refine hK9.out _ _ ⟨keep_cell ((Below.refl wad22.heap.size wad22).alloc (Nat.le_refl _) _) t0, keep_cell ((Below.refl wad22.heap.size wad22).alloc (Nat.le_refl _) _) t1, keep_below_alloc hw _⟩ (fun hHeld => ?_)
          clear hK9 K9
          (try simp only [Act.put, List.setIfInBounds_toArray, List.set_cons_zero, List.set_cons_succ])
          refine wpAnyJ_name hHeld (fun wad23 hHa hwz => ?_)
          have hbA : Below wad22.heap.size wad22 wad23 := by rw [hwz]; exact (Below.refl wad22.heap.size wad22).alloc (Nat.le_refl _) _
          have hn3 : NewsAt wad23 wad22.heap.size (.int .i64 (-1)) := by rw [hwz]; exact World.news_of_block (cs := #[.int .i64 (-1)]) (t := 3) (fr := (0, 0)) (heap_alloc_new _ _)
          have hnv3 : (Value.slice A0 (PF i9).length c0).ownBlock ≠ some wad22.heap.size ∧ (Value.slice A1 (WF i9).length c1).ownBlock ≠ some wad22.heap.size := ⟨fun e => by have := (ho0.lt _ e).2; omega, fun e => by have := (ho1.lt _ e).2; omega⟩
          replace t0 := keep_cell hbA t0
          replace t1 := keep_cell hbA t1
          replace hbl := hbl.below hbA
          replace ho0 := own_below ho0 hbA
          replace ho1 := own_below ho1 hbA
          replace hkb := hkb.below hbA
          replace hL := hL.below hbA
          replace hn8 := hn8.below hbA
          replace hw := keep_below hbA hw
          generalize wad22.heap.size = g3 at hn3 hnv3 ⊢
          clear hHeld hbA hwz
          have hHeld := hHa
          clear hHa
          refine wpAnyJ_ready (rs := [4]) (by kernel_rfl) (by simp) ?_
          refine AllReadyJ.cons (i := 4) (o := ?ood24) ?hod24 (fun K9 hK9 => ?hstepd24) AllReadyJ.nil
          case hod24 => simp only [List.getElem?_toArray, List.getElem?_cons_zero, List.getElem?_cons_succ]; rfl
          clear hHeld
          refine step_append_elder _ (by rfl) _ _ 24 (by rfl) wx.heap.size 3 i0 (.int .i64 0) 1 8 Tryz.underlying24 hi hz0 hz1 hz2 rfl (by decide) _ _ _ (by rfl) ho0 ⟨g3, 0, none⟩ 1 1 [.int .i64 (-1)] (by rfl) rfl hn3 (by simp [Value.oneCell']) (by unfold maxLen; omega) (by omega) hkb.size ?_
          intro v5 wpd24 hown5 hg5 hat5 _
          obtain ⟨Av5, cv5, rfl⟩ := own_slice hown5
          have hv5 := new_apartI hbl.lt hne0 ho1 hap hat5
          have hr5 : ∀ g, (Value.slice A0 (PF i9).length c0).ownBlock = some g → wx.heap.size ≤ g := fun g e => (ho0.lt g e).1
          replace t0 := grown_cell hg5 t0 hne0
          replace t1 := grown_cell hg5 t1 hne0
          replace hbl := hbl.grown hg5 hne0
          replace hL := hL.grown hg5 (own_no ho0 hLx)
          replace ho1 := own_keptv ho1 hg5 (fun g e e2 => hap g e2 e)
          replace hn8 := hn8.grown hg5 hnv8.1
          replace hw := Below.grown hw hg5 hw.size (fun g e => Nat.le_trans hwle (hr5 g e))
          replace hkb := hkb.grown hg5 hr5
          clear ho0 hn3 hr5 hg5 hat5
          refine hK9.out _ _ ⟨t0, t1, hw⟩ (fun hHeld => ?_)
          clear hK9 K9
          (try simp only [Act.put, List.setIfInBounds_toArray, List.set_cons_zero, List.set_cons_succ])
          refine wpAnyJ_pure (i := 10) (oi := ?ood25) (v := ?vvd25) ?hid25 (by kernel_rfl) (by kernel_rfl) (by kernel_rfl) (by rfl) ?hqd25 (Or.inl ⟨?hgd25, ?hyd25⟩) ?restd25
          case hid25 => simp only [List.getElem?_toArray, List.getElem?_cons_zero, List.getElem?_cons_succ]; rfl
          case hqd25 => exact fun _ _ _ h => h
          case hgd25 => rfl
          case hyd25 =>
            intro wq _
            go_simp
            (try with_reducible rfl)
          (try simp only [Act.put, List.setIfInBounds_toArray, List.set_cons_zero, List.set_cons_succ])
          refine wpAnyJ_ready (rs := [9]) (by kernel_rfl) (by simp) ?_
          refine AllReadyJ.cons (i := 9) (o := ?ood26) ?hod26 (fun K9 hK9 => ?hstepd26) AllReadyJ.nil
          case hod26 => simp only [List.getElem?_toArray, List.getElem?_cons_zero, List.getElem?_cons_succ]; rfl
          clear hHeld
          refine step_append_elder _ (by rfl) _ _ 24 (by rfl) wx.heap.size 3 i0 (.int .i64 0) 1 8 Tryz.underlying24 hi hz0 hz1 hz2 rfl (by decide) _ _ _ (by rfl) ho1 ⟨g8, 0, none⟩ 1 1 [.int .i64 0] (by rfl) rfl hn8 (by simp [Value.oneCell']) (by unfold maxLen; omega) (by omega) hkb.size ?_
          intro v7 wpd26 hown7 hg7 hat7 _
          obtain ⟨Av7, cv7, rfl⟩ := own_slice hown7
          have hv7 : (Value.slice Av7 ((WF i9).length + 1) cv7).ownBlock ≠ some gT ∧ ∀ g, (Value.slice Av5 ((PF i9).length + 1) cv5).ownBlock = some g → (Value.slice Av7 ((WF i9).length + 1) cv7).ownBlock ≠ some g := by
            have h := new_apartI hbl.lt hne1 hown5 (fun g e e2 => hv5.2 g e2 e) hat7
            exact ⟨h.1, fun g e e2 => h.2 g e2 e⟩
          have hr7 : ∀ g, (Value.slice A1 (WF i9).length c1).ownBlock = some g → wx.heap.size ≤ g := fun g e => (ho1.lt g e).1
          replace t0 := grown_cell hg7 t0 hne1
          replace t1 := grown_cell hg7 t1 hne1
          replace hbl := hbl.grown hg7 hne1
          replace hL := hL.grown hg7 (own_no ho1 hLx)
          replace hown5 := own_keptv hown5 hg7 (fun g e e2 => hv5.2 g e e2)
          replace hw := Below.grown hw hg7 hw.size (fun g e => Nat.le_trans hwle (hr7 g e))
          replace hkb := hkb.grown hg7 hr7
          clear ho1 hn8 hr7 hg7 hat7
          refine hK9.out _ _ ⟨t0, t1, hw⟩ (fun hHeld => ?_)
          clear hK9 K9
          (try simp only [Act.put, List.setIfInBounds_toArray, List.set_cons_zero, List.set_cons_succ])
          refine wpAnyJ_ready (rs := [11]) (by kernel_rfl) (by simp) ?_
          refine AllReadyJ.free (i := 11) (o := ?ood27) ?hod27 (by rfl) (fun K9 hK9 => ?hstepd27) AllReadyJ.nil
          case hod27 => simp only [List.getElem?_toArray, List.getElem?_cons_zero, List.getElem?_cons_succ]; rfl
          have hff := hbl.free 0
          go_simp
          refine hK9.out _ _ trivial (fun _ => ?_)
          clear hK9 K9
          (try simp only [Act.put, List.setIfInBounds_toArray, List.set_cons_zero, List.set_cons_succ])
          refine wpAnyJ_call (fun wvd27 hwz => ?_)
          replace hbl := hbl.set0 (Value.slice Av5 ((PF i9).length + 1) cv5)
          replace hL := RowX.far (q := gT) (j := 0) (v := (Value.slice Av5 ((PF i9).length + 1) cv5)) hL hTL.symm
          replace hown5 := own_keptv hown5 (grown_set1 _ gT 0 (Value.slice Av5 ((PF i9).length + 1) cv5)) (fun g e e2 => hv5.1 (by rw [e, ← e2]))
          replace hown7 := own_keptv hown7 (grown_set1 _ gT 0 (Value.slice Av5 ((PF i9).length + 1) cv5)) (fun g e e2 => hv7.1 (by rw [e, ← e2]))
          replace hkb := hkb.set0 0 (Value.slice Av5 ((PF i9).length + 1) cv5)
          replace hw := Below.setCell' (p := ⟨gT, 0, none⟩) hwT hw (Value.slice Av5 ((PF i9).length + 1) cv5)
          rw [← hwz] at hbl hL hown5 hown7 hkb hw
          clear t0 t1 hff
          have t0 := hbl.c0
          have t1 := hbl.c1
          clear hwz
          refine wpAnyJ_pure (i := 12) (oi := ?ood28) (v := ?vvd28) ?hid28 (by kernel_rfl) (by kernel_rfl) (by kernel_rfl) (by rfl) ?hqd28 (Or.inl ⟨?hgd28, ?hyd28⟩) ?restd28
          case hid28 => simp only [List.getElem?_toArray, List.getElem?_cons_zero, List.getElem?_cons_succ]; rfl
          case hqd28 => exact fun _ _ _ h => h
          case hgd28 => rfl
          case hyd28 =>
            intro wq _
            go_simp
            (try with_reducible rfl)
          (try simp only [Act.put, List.setIfInBounds_toArray, List.set_cons_zero, List.set_cons_succ])
          refine wpAnyJ_ready (rs := [13]) (by kernel_rfl) (by simp) ?_
          refine AllReadyJ.free (i := 13) (o := ?ood29) ?hod29 (by rfl) (fun K9 hK9 => ?hstepd29) AllReadyJ.nil
          case hod29 => simp only [List.getElem?_toArray, List.getElem?_cons_zero, List.getElem?_cons_succ]; rfl
          have hff := hbl.free 1
          go_simp
          refine hK9.out _ _ trivial (fun _ => ?_)
          clear hK9 K9
          (try simp only [Act.put, List.setIfInBounds_toArray, List.set_cons_zero, List.set_cons_succ])
          refine wpAnyJ_call (fun wvd29 hwz => ?_)
          replace hbl := hbl.set1 (Value.slice Av7 ((WF i9).length + 1) cv7)
          replace hL := RowX.far (q := gT) (j := 1) (v := (Value.slice Av7 ((WF i9).length + 1) cv7)) hL hTL.symm
          replace hown5 := own_keptv hown5 (grown_set1 _ gT 1 (Value.slice Av7 ((WF i9).length + 1) cv7)) (fun g e e2 => hv5.1 (by rw [e, ← e2]))
          replace hown7 := own_keptv hown7 (grown_set1 _ gT 1 (Value.slice Av7 ((WF i9).length + 1) cv7)) (fun g e e2 => hv7.1 (by rw [e, ← e2]))
          replace hkb := hkb.set0 1 (Value.slice Av7 ((WF i9).length + 1) cv7)
          replace hw := Below.setCell' (p := ⟨gT, 1, none⟩) hwT hw (Value.slice Av7 ((WF i9).length + 1) cv7)
          rw [← hwz] at hbl hL hown5 hown7 hkb hw
          clear t0 t1 hff
          have t0 := hbl.c0
          have t1 := hbl.c1
          clear hwz
          clear hHeld
          refine wpAnyJ_done (by kernel_rfl) ?_ _
          have h4 : Two wvd29 wx.heap.size gT (Value.slice Av5 ((PF i9).length + 1) cv5) (Value.slice Av7 ((WF i9).length + 1) cv7) ((PF i9).length + 1) ((WF i9).length + 1) (PF (i9 + 1)) (WF (i9 + 1)) := ⟨hbl, by rw [HPy.out _ hkp, hPR.out, i64s_app]; exact hown5, by rw [HWy.out _ hkp, hWT.out, i64s_app]; exact hown7, hv5.1, hv7.1, hv7.2⟩
          have HL1 : Hid ((PF i9).length + 1 = (PF (i9 + 1)).length) := by rw [HPy.out _ hkp]; exact Lib.hid (by simp)
          have HL2 : Hid ((WF i9).length + 1 = (WF (i9 + 1)).length) := by rw [HWy.out _ hkp]; exact Lib.hid (by simp)
          clear hbl hown5 hown7 t0 t1
          (try clear hcU)
          (try clear hcA)
          (try clear hAe)
          (try clear hx0')
          (try clear j0 j1 i4)
          go_wp2
          go_roundw
          case rel => first | exact ⟨i9 + 1, hlt, by omega, ⟨_, _, by rw [← HL1.out, ← HL2.out]; exact h4⟩, hL, hkb⟩ | exact ⟨i9 + 1, _, _, hlt, by go_num, by rw [← HL1.out, ← HL2.out]; exact h4, hL, hkb⟩
          case measure => simp [intOf]; exact Nat.sub_lt_sub_left hlt (Nat.lt_succ_self _)
        exact AllReadyJ.nil
      obtain ⟨p, hp, hpk⟩ := HU.out i9 (by omega) hlt
      obtain ⟨bA, oA, hAe, hcA⟩ := (h.below hw).at_ (j := i9) hlt
      rw [hAe] at hx0'
      clear hAe
      rw [hp] at hcA
      have hPR1 := HPr.out i9 p (by omega) hlt hp hpk hkp
      have hPR : Hid (PR i9 = AT p) := Lib.hid hPR1.2
      have i4 : (0 : Int) < (i9 : Int) := by omega
      have hcU := hL.cell (j := p) (by rw [HLl.out]; omega)
      rw [HLg.out _ _ (by omega), if_pos ⟨by omega, hPR1.1⟩] at hcU
      have j0 : (0 : Int) ≤ (p : Int) := by omega
      have j1 : (p : Int) < (xs.length : Int) := by omega
      clear h0 hp hPR1
      generalize AT p = pq at *
      by_cases hdd : nth DP i9 = d9
      case pos =>
        have hWT : Hid (WT i9 = nth SU i9) := Lib.hid (hWi.1 (.inl hdd))
        have i5 : (nth DP i9 == d9) = true := by rw [beq_iff_eq]; exact hdd
        clear hWi hkd hdd
        go_upto_region 15 with (fail)
        have hbl := h2.blk
        have ho0 := h2.own0
        have ho1 := h2.own1
        have hne0 := h2.ne0
        have hne1 := h2.ne1
        have hap := h2.ap
        have t0 := hbl.c0
        have t1 := hbl.c1
        clear h2
        refine wp_region_J (S := fun w' => w'.cell? ⟨gT, 0, none⟩ = some (.slice A0 (PF i9).length c0) ∧ w'.cell? ⟨gT, 1, none⟩ = some (.slice A1 (WF i9).length c1) ∧ Below w.heap.size w w') (fun j => j == 1 || j == 3 || j == 4 || j == 6 || j == 8 || j == 9) (by kernel_rfl) ⟨t0, t1, hw.drew⟩ (fun hHeld => ?_)
        refine wpAnyJ_pure (i := 0) (oi := ?ooe1) (v := ?vve1) ?hie1 (by kernel_rfl) (by kernel_rfl) (by kernel_rfl) (by rfl) ?hqe1 (Or.inl ⟨?hge1, ?hye1⟩) ?reste1
        case hie1 => simp only [List.getElem?_toArray, List.getElem?_cons_zero]; rfl
        case hqe1 => exact fun _ _ _ h => h
        case hge1 => rfl
        case hye1 =>
          intro wq _
          go_simp
          (try with_reducible rfl)
        (try simp only [Act.put, List.setIfInBounds_toArray, List.set_cons_zero, List.set_cons_succ])
        refine wpAnyJ_pure (i := 2) (oi := ?ooe2) (v := ?vve2) ?hie2 (by kernel_rfl) (by kernel_rfl) (by kernel_rfl) (by rfl) ?hqe2 (Or.inl ⟨?hge2, ?hye2⟩) ?reste2
        case hie2 => simp only [List.getElem?_toArray, List.getElem?_cons_zero, List.getElem?_cons_succ]; rfl
        case hqe2 => exact fun _ _ _ h => h
        case hge2 => rfl
        case hye2 =>
          intro wq _
          go_simp
          (try with_reducible rfl)
        (try simp only [Act.put, List.setIfInBounds_toArray, List.set_cons_zero, List.set_cons_succ])
        refine wpAnyJ_pure (i := 5) (oi := ?ooe3) (v := ?vve3) ?hie3 (by kernel_rfl) (by kernel_rfl) (by kernel_rfl) (by rfl) ?hqe3 (Or.inl ⟨?hge3, ?hye3⟩) ?reste3
        case hie3 => simp only [List.getElem?_toArray, List.getElem?_cons_zero, List.getElem?_cons_succ]; rfl
        case hqe3 => exact fun _ _ _ h => h
        case hge3 => rfl
        case hye3 =>
          intro wq _
          go_simp
          (try with_reducible rfl)
        (try simp only [Act.put, List.setIfInBounds_toArray, List.set_cons_zero, List.set_cons_succ])
        refine wpAnyJ_pure (i := 7) (oi := ?ooe4) (v := ?vve4) ?hie4 (by kernel_rfl) (by kernel_rfl) (by kernel_rfl) (by rfl) ?hqe4 (Or.inl ⟨?hge4, ?hye4⟩) ?reste4
        case hie4 => simp only [List.getElem?_toArray, List.getElem?_cons_zero, List.getElem?_cons_succ]; rfl
        case hqe4 => exact fun _ _ _ h => h
        case hge4 => rfl
        case hye4 =>
          intro wq _
          go_simp
          (try with_reducible rfl)
        (try simp only [Act.put, List.setIfInBounds_toArray, List.set_cons_zero, List.set_cons_succ])
        refine wpAnyJ_take (i := 1) (oi := ?ooe5) (v := ?vve5) ?hie5 (by kernel_rfl) (by kernel_rfl) (by kernel_rfl) (by kernel_rfl) ?hqe5 (Or.inl ⟨?hge5, ?hye5⟩) (by assumption) ?reste5
        case hie5 => simp only [List.getElem?_toArray, List.getElem?_cons_zero, List.getElem?_cons_succ]; rfl
        case hqe5 => exact fun _ _ _ h => h
        case hge5 => rfl
        case hye5 =>
          intro wq hSw
          obtain ⟨t0, t1, hw⟩ := hSw
          go_simp
          (try with_reducible rfl)
        (try simp only [Act.put, List.setIfInBounds_toArray, List.set_cons_zero, List.set_cons_succ])
        refine wpAnyJ_take (i := 6) (oi := ?ooe6) (v := ?vve6) ?hie6 (by kernel_rfl) (by kernel_rfl) (by kernel_rfl) (by kernel_rfl) ?hqe6 (Or.inl ⟨?hge6, ?hye6⟩) (by assumption) ?reste6
        case hie6 => simp only [List.getElem?_toArray, List.getElem?_cons_zero, List.getElem?_cons_succ]; rfl
        case hqe6 => exact fun _ _ _ h => h
        case hge6 => rfl
        case hye6 =>
          intro wq hSw
          obtain ⟨t0, t1, hw⟩ := hSw
          go_simp
          (try with_reducible rfl)
        (try simp only [Act.put, List.setIfInBounds_toArray, List.set_cons_zero, List.set_cons_succ])
        refine wpAnyJ_ready (rs := [3, 8]) (by kernel_rfl) (by simp) ?_
        refine AllReadyJ.cons (i := 3) (o := ?ooe7) ?hoe7 (fun K9 hK9 => ?hstepe7) ?moree7
        case hoe7 => simp only [List.getElem?_toArray, List.getElem?_cons_zero, List.getElem?_cons_succ]; rfl
        case hstepe7 =>
          go_simp
          clear hHeld
          refine hK9.out _ _ ⟨keep_cell (Below.drew ((Below.refl wz.heap.size wz).alloc (Nat.le_refl _) _)) t0, keep_cell (Below.drew ((Below.refl wz.heap.size wz).alloc (Nat.le_refl _) _)) t1, Below.drew (keep_below_alloc hw _)⟩ (fun hHeld => ?_)
          clear hK9 K9
          (try simp only [Act.put, List.setIfInBounds_toArray, List.set_cons_zero, List.set_cons_succ])
          refine wpAnyJ_name hHeld (fun wae7 hHa hwz => ?_)
          have hbA : Below wz.heap.size wz wae7 := by rw [hwz]; exact Below.drew ((Below.refl wz.heap.size wz).alloc (Nat.le_refl _) _)
          have hn3 : NewsAt wae7 wz.heap.size (.int .i64 pq) := by rw [hwz]; exact World.news_of_block (cs := #[.int .i64 pq]) (t := 3) (fr := (0, 0)) (heap_alloc_new _ _)
          have hnv3 : (Value.slice A0 (PF i9).length c0).ownBlock ≠ some wz.heap.size ∧ (Value.slice A1 (WF i9).length c1).ownBlock ≠ some wz.heap.size := ⟨fun e => by have := (ho0.lt _ e).2; omega, fun e => by have := (ho1.lt _ e).2; omega⟩
          replace t0 := keep_cell hbA t0
          replace t1 := keep_cell hbA t1
          replace hbl := hbl.below hbA
          replace ho0 := own_below ho0 hbA
          replace ho1 := own_below ho1 hbA
          replace hkb := hkb.below hbA
          replace hL := hL.below hbA
          replace hw := keep_below hbA hw
          generalize wz.heap.size = g3 at hn3 hnv3 ⊢
          clear hHeld hbA hwz
          have hHeld := hHa
          clear hHa
          refine wpAnyJ_ready (rs := [4, 8]) (by kernel_rfl) (by simp) ?_
          refine AllReadyJ.cons (i := 4) (o := ?ooe8) ?hoe8 (fun K9 hK9 => ?hstepe8) ?moree8
          case hoe8 => simp only [List.getElem?_toArray, List.getElem?_cons_zero, List.getElem?_cons_succ]; rfl
          case hstepe8 =>
            clear hHeld
            refine step_append_elder _ (by rfl) _ _ 24 (by rfl) wx.heap.size 3 i0 (.int .i64 0) 1 8 Tryz.underlying24 hi hz0 hz1 hz2 rfl (by decide) _ _ _ (by rfl) ho0 ⟨g3, 0, none⟩ 1 1 [.int .i64 pq] (by rfl) rfl hn3 (by simp [Value.oneCell']) (by unfold maxLen; omega) (by omega) hkb.size ?_
            intro v5 wpe8 hown5 hg5 hat5 _
            obtain ⟨Av5, cv5, rfl⟩ := own_slice hown5
            have hv5 := new_apartI hbl.lt hne0 ho1 hap hat5
            have hr5 : ∀ g, (Value.slice A0 (PF i9).length c0).ownBlock = some g → wx.heap.size ≤ g := fun g e => (ho0.lt g e).1
            replace t0 := grown_cell hg5 t0 hne0
            replace t1 := grown_cell hg5 t1 hne0
            replace hbl := hbl.grown hg5 hne0
            replace hL := hL.grown hg5 (own_no ho0 hLx)
            replace ho1 := own_keptv ho1 hg5 (fun g e e2 => hap g e2 e)
            replace hw := Below.grown hw hg5 hw.size (fun g e => Nat.le_trans hwle (hr5 g e))
            replace hkb := hkb.grown hg5 hr5
            clear ho0 hn3 hr5 hg5 hat5
            refine hK9.out _ _ ⟨t0, t1, hw⟩ (fun hHeld => ?_)
            clear hK9 K9
            (try simp only [Act.put, List.setIfInBounds_toArray, List.set_cons_zero, List.set_cons_succ])
            refine wpAnyJ_pure (i := 10) (oi := ?ooe9) (v := ?vve9) ?hie9 (by kernel_rfl) (by kernel_rfl) (by kernel_rfl) (by rfl) ?hqe9 (Or.inl ⟨?hge9, ?hye9⟩) ?reste9
            case hie9 => simp only [List.getElem?_toArray, List.getElem?_cons_zero, List.getElem?_cons_succ]; rfl
            case hqe9 => exact fun _ _ _ h => h
            case hge9 => rfl
            case hye9 =>
              intro wq _
              go_simp
              (try with_reducible rfl)
            (try simp only [Act.put, List.setIfInBounds_toArray, List.set_cons_zero, List.set_cons_succ])
            refine wpAnyJ_ready (rs := [8]) (by kernel_rfl) (by simp) ?_
            refine AllReadyJ.cons (i := 8) (o := ?ooe10) ?hoe10 (fun K9 hK9 => ?hstepe10) AllReadyJ.nil
            case hoe10 => simp only [List.getElem?_toArray, List.getElem?_cons_zero, List.getElem?_cons_succ]; rfl
            go_simp
            clear hHeld
            refine hK9.out _ _ ⟨keep_cell ((Below.refl wpe8.heap.size wpe8).alloc (Nat.le_refl _) _) t0, keep_cell ((Below.refl wpe8.heap.size wpe8).alloc (Nat.le_refl _) _) t1, keep_below_alloc hw _⟩ (fun hHeld => ?_)
            clear hK9 K9
            (try simp only [Act.put, List.setIfInBounds_toArray, List.set_cons_zero, List.set_cons_succ])
            refine wpAnyJ_name hHeld (fun wae10 hHa hwz => ?_)
            have hbA : Below wpe8.heap.size wpe8 wae10 := by rw [hwz]; exact (Below.refl wpe8.heap.size wpe8).alloc (Nat.le_refl _) _
            have hn8 : NewsAt wae10 wpe8.heap.size (.int .i64 (nth SU i9)) := by rw [hwz]; exact World.news_of_block (cs := #[.int .i64 (nth SU i9)]) (t := 3) (fr := (0, 0)) (heap_alloc_new _ _)
            have hnv8 : True ∧ (Value.slice A1 (WF i9).length c1).ownBlock ≠ some wpe8.heap.size := ⟨trivial, fun e => by have := (ho1.lt _ e).2; omega⟩
            replace t0 := keep_cell hbA t0
            replace t1 := keep_cell hbA t1
            replace hbl := hbl.below hbA
            replace ho1 := own_below ho1 hbA
            replace hkb := hkb.below hbA
            replace hL := hL.below hbA
            replace hown5 := own_below hown5 hbA
            replace hw := keep_below hbA hw
            generalize wpe8.heap.size = g8 at hn8 hnv8 ⊢
            clear hHeld hbA hwz
            have hHeld := hHa
            clear hHa
            refine wpAnyJ_ready (rs := [9]) (by kernel_rfl) (by simp) ?_
            refine AllReadyJ.cons (i := 9) (o := ?ooe11) ?hoe11 (fun K9 hK9 => ?hstepe11) AllReadyJ.nil
            case hoe11 => simp only [List.getElem?_toArray, List.getElem?_cons_zero, List.getElem?_cons_succ]; rfl
            clear hHeld
            refine step_append_elder _ (by rfl) _ _ 24 (by rfl) wx.heap.size 3 i0 (.int .i64 0) 1 8 Tryz.underlying24 hi hz0 hz1 hz2 rfl (by decide) _ _ _ (by rfl) ho1 ⟨g8, 0, none⟩ 1 1 [.int .i64 (nth SU i9)] (by rfl) rfl hn8 (by simp [Value.oneCell']) (by unfold maxLen; omega) (by omega) hkb.size ?_
            intro v7 wpe11 hown7 hg7 hat7 _
            obtain ⟨Av7, cv7, rfl⟩ := own_slice hown7
            have hv7 : (Value.slice Av7 ((WF i9).length + 1) cv7).ownBlock ≠ some gT ∧ ∀ g, (Value.slice Av5 ((PF i9).length + 1) cv5).ownBlock = some g → (Value.slice Av7 ((WF i9).length + 1) cv7).ownBlock ≠ some g := by
              have h := new_apartI hbl.lt hne1 hown5 (fun g e e2 => hv5.2 g e2 e) hat7
              exact ⟨h.1, fun g e e2 => h.2 g e2 e⟩
            have hr7 : ∀ g, (Value.slice A1 (WF i9).length c1).ownBlock = some g → wx.heap.size ≤ g := fun g e => (ho1.lt g e).1
            replace t0 := grown_cell hg7 t0 hne1
            replace t1 := grown_cell hg7 t1 hne1
            replace hbl := hbl.grown hg7 hne1
            replace hL := hL.grown hg7 (own_no ho1 hLx)
            replace hown5 := own_keptv hown5 hg7 (fun g e e2 => hv5.2 g e e2)
            replace hw := Below.grown hw hg7 hw.size (fun g e => Nat.le_trans hwle (hr7 g e))
            replace hkb := hkb.grown hg7 hr7
            clear ho1 hn8 hr7 hg7 hat7
            refine hK9.out _ _ ⟨t0, t1, hw⟩ (fun hHeld => ?_)
            clear hK9 K9
            (try simp only [Act.put, List.setIfInBounds_toArray, List.set_cons_zero, List.set_cons_succ])
            refine wpAnyJ_ready (rs := [11]) (by kernel_rfl) (by simp) ?_
            refine AllReadyJ.free (i := 11) (o := ?ooe12) ?hoe12 (by rfl) (fun K9 hK9 => ?hstepe12) AllReadyJ.nil
            case hoe12 => simp only [List.getElem?_toArray, List.getElem?_cons_zero, List.getElem?_cons_succ]; rfl
            have hff := hbl.free 0
            go_simp
            refine hK9.out _ _ trivial (fun _ => ?_)
            clear hK9 K9
            (try simp only [Act.put, List.setIfInBounds_toArray, List.set_cons_zero, List.set_cons_succ])
            refine wpAnyJ_call (fun wve12 hwz => ?_)
            replace hbl := hbl.set0 (Value.slice Av5 ((PF i9).length + 1) cv5)
            replace hL := RowX.far (q := gT) (j := 0) (v := (Value.slice Av5 ((PF i9).length + 1) cv5)) hL hTL.symm
            replace hown5 := own_keptv hown5 (grown_set1 _ gT 0 (Value.slice Av5 ((PF i9).length + 1) cv5)) (fun g e e2 => hv5.1 (by rw [e, ← e2]))
            replace hown7 := own_keptv hown7 (grown_set1 _ gT 0 (Value.slice Av5 ((PF i9).length + 1) cv5)) (fun g e e2 => hv7.1 (by rw [e, ← e2]))
            replace hkb := hkb.set0 0 (Value.slice Av5 ((PF i9).length + 1) cv5)
            replace hw := Below.setCell' (p := ⟨gT, 0, none⟩) hwT hw (Value.slice Av5 ((PF i9).length + 1) cv5)
            rw [← hwz] at hbl hL hown5 hown7 hkb hw
            clear t0 t1 hff
            have t0 := hbl.c0
            have t1 := hbl.c1
            clear hwz
            refine wpAnyJ_pure (i := 12) (oi := ?ooe13) (v := ?vve13) ?hie13 (by kernel_rfl) (by kernel_rfl) (by kernel_rfl) (by rfl) ?hqe13 (Or.inl ⟨?hge13, ?hye13⟩) ?reste13
            case hie13 => simp only [List.getElem?_toArray, List.getElem?_cons_zero, List.getElem?_cons_succ]; rfl
            case hqe13 => exact fun _ _ _ h => h
            case hge13 => rfl
            case hye13 =>
              intro wq _
              go_simp
              (try with_reducible rfl)
            (try simp only [Act.put, List.setIfInBounds_toArray, List.set_cons_zero, List.set_cons_succ])
            refine wpAnyJ_ready (rs := [13]) (by kernel_rfl) (by simp) ?_
            refine AllReadyJ.free (i := 13) (o := ?ooe14) ?hoe14 (by rfl) (fun K9 hK9 => ?hstepe14) AllReadyJ.nil
            case hoe14 => simp only [List.getElem?_toArray, List.getElem?_cons_zero, List.getElem?_cons_succ]; rfl
            have hff := hbl.free 1
            go_simp
            refine hK9.out _ _ trivial (fun _ => ?_)
            clear hK9 K9
            (try simp only [Act.put, List.setIfInBounds_toArray, List.set_cons_zero, List.set_cons_succ])
            refine wpAnyJ_call (fun wve14 hwz => ?_)
            replace hbl := hbl.set1 (Value.slice Av7 ((WF i9).length + 1) cv7)
            replace hL := RowX.far (q := gT) (j := 1) (v := (Value.slice Av7 ((WF i9).length + 1) cv7)) hL hTL.symm
            replace hown5 := own_keptv hown5 (grown_set1 _ gT 1 (Value.slice Av7 ((WF i9).length + 1) cv7)) (fun g e e2 => hv5.1 (by rw [e, ← e2]))
            replace hown7 := own_keptv hown7 (grown_set1 _ gT 1 (Value.slice Av7 ((WF i9).length + 1) cv7)) (fun g e e2 => hv7.1 (by rw [e, ← e2]))
            replace hkb := hkb.set0 1 (Value.slice Av7 ((WF i9).length + 1) cv7)
            replace hw := Below.setCell' (p := ⟨gT, 1, none⟩) hwT hw (Value.slice Av7 ((WF i9).length + 1) cv7)
            rw [← hwz] at hbl hL hown5 hown7 hkb hw
            clear t0 t1 hff
            have t0 := hbl.c0
            have t1 := hbl.c1
            clear hwz
            clear hHeld
            refine wpAnyJ_done (by kernel_rfl) ?_ _
            have h4 : Two wve14 wx.heap.size gT (Value.slice Av5 ((PF i9).length + 1) cv5) (Value.slice Av7 ((WF i9).length + 1) cv7) ((PF i9).length + 1) ((WF i9).length + 1) (PF (i9 + 1)) (WF (i9 + 1)) := ⟨hbl, by rw [HPy.out _ hkp, hPR.out, i64s_app]; exact hown5, by rw [HWy.out _ hkp, hWT.out, i64s_app]; exact hown7, hv5.1, hv7.1, hv7.2⟩
            have HL1 : Hid ((PF i9).length + 1 = (PF (i9 + 1)).length) := by rw [HPy.out _ hkp]; exact Lib.hid (by simp)
            have HL2 : Hid ((WF i9).length + 1 = (WF (i9 + 1)).length) := by rw [HWy.out _ hkp]; exact Lib.hid (by simp)
            clear hbl hown5 hown7 t0 t1
            (try clear hcU)
            (try clear hcA)
            (try clear hAe)
            (try clear hx0')
            (try clear j0 j1 i4)
            go_wp2
            go_roundw
            case rel => first | exact ⟨i9 + 1, hlt, by omega, ⟨_, _, by rw [← HL1.out, ← HL2.out]; exact h4⟩, hL, hkb⟩ | exact ⟨i9 + 1, _, _, hlt, by go_num, by rw [← HL1.out, ← HL2.out]; exact h4, hL, hkb⟩
            case measure => simp [intOf]; exact Nat.sub_lt_sub_left hlt (Nat.lt_succ_self _)
          refine AllReadyJ.cons (i := 8) (o := ?ooe15) ?hoe15 (fun K9 hK9 => ?hstepe15) ?moree15
          case hoe15 => simp only [List.getElem?_toArray, List.getElem?_cons_zero, List.getElem?_cons_succ]; rfl
          case hstepe15 =>
            go_simp
            clear hHeld
            refine hK9.out _ _ ⟨keep_cell ((Below.refl wae7.heap.size wae7).alloc (Nat.le_refl _) _) t0, keep_cell ((Below.refl wae7.heap.size wae7).alloc (Nat.le_refl _) _) t1, keep_below_alloc hw _⟩ (fun hHeld => ?_)
            clear hK9 K9
            (try simp only [Act.put, List.setIfInBounds_toArray, List.set_cons_zero, List.set_cons_succ])
            refine wpAnyJ_name hHeld (fun wae15 hHa hwz => ?_)
            have hbA : Below wae7.heap.size wae7 wae15 := by rw [hwz]; exact (Below.refl wae7.heap.size wae7).alloc (Nat.le_refl _) _
            have hn8 : NewsAt wae15 wae7.heap.size (.int .i64 (nth SU i9)) := by rw [hwz]; exact World.news_of_block (cs := #[.int .i64 (nth SU i9)]) (t := 3) (fr := (0, 0)) (heap_alloc_new _ _)
            have hnv8 : (Value.slice A0 (PF i9).length c0).ownBlock ≠ some wae7.heap.size ∧ (Value.slice A1 (WF i9).length c1).ownBlock ≠ some wae7.heap.size := ⟨fun e => by have := (ho0.lt _ e).2; omega, fun e => by have := (ho1.lt _ e).2; omega⟩
            replace t0 := keep_cell hbA t0
            replace t1 := keep_cell hbA t1
            replace hbl := hbl.below hbA
            replace ho0 := own_below ho0 hbA
            replace ho1 := own_below ho1 hbA
            replace hkb := hkb.below hbA
            replace hL := hL.below hbA
            replace hn3 := hn3.below hbA
            replace hw := keep_below hbA hw
            generalize wae7.heap.size = g8 at hn8 hnv8 ⊢
            clear hHeld hbA hwz
            have hHeld := hHa
            clear hHa
            refine wpAnyJ_ready (rs := [4]) (by kernel_rfl) (by simp) ?_
            refine AllReadyJ.cons (i := 4) (o := ?ooe16) ?hoe16 (fun K9 hK9 => ?hstepe16) AllReadyJ.nil
            case hoe16 => simp only [List.getElem?_toArray, List.getElem?_cons_zero, List.getElem?_cons_succ]; rfl
            clear hHeld
            refine step_append_elder _ (by rfl) _ _ 24 (by rfl) wx.heap.size 3 i0 (.int .i64 0) 1 8 Tryz.underlying24 hi hz0 hz1 hz2 rfl (by decide) _ _ _ (by rfl) ho0 ⟨g3, 0, none⟩ 1 1 [.int .i64 pq] (by rfl) rfl hn3 (by simp [Value.oneCell']) (by unfold maxLen; omega) (by omega) hkb.size ?_
            intro v5 wpe16 hown5 hg5 hat5 _
            obtain ⟨Av5, cv5, rfl⟩ := own_slice hown5
            have hv5 := new_apartI hbl.lt hne0 ho1 hap hat5
            have hr5 : ∀ g, (Value.slice A0 (PF i9).length c0).ownBlock = some g → wx.heap.size ≤ g := fun g e => (ho0.lt g e).1
            replace t0 := grown_cell hg5 t0 hne0
            replace t1 := grown_cell hg5 t1 hne0
            replace hbl := hbl.grown hg5 hne0
            replace hL := hL.grown hg5 (own_no ho0 hLx)
            replace ho1 := own_keptv ho1 hg5 (fun g e e2 => hap g e2 e)
            replace hn8 := hn8.grown hg5 hnv8.1
            replace hw := Below.grown hw hg5 hw.size (fun g e => Nat.le_trans hwle (hr5 g e))
            replace hkb := hkb.grown hg5 hr5
            clear ho0 hn3 hr5 hg5 hat5
            refine hK9.out _ _ ⟨t0, t1, hw⟩ (fun hHeld => ?_)
            clear hK9 K9
            (try simp only [Act.put, List.setIfInBounds_toArray, List.set_cons_zero, List.set_cons_succ])
            refine wpAnyJ_pure (i := 10) (oi := ?ooe17) (v := ?vve17) ?hie17 (by kernel_rfl) (by kernel_rfl) (by kernel_rfl) (by rfl) ?hqe17 (Or.inl ⟨?hge17, ?hye17⟩) ?reste17
            case hie17 => simp only [List.getElem?_toArray, List.getElem?_cons_zero, List.getElem?_cons_succ]; rfl
            case hqe17 => exact fun _ _ _ h => h
            case hge17 => rfl
            case hye17 =>
              intro wq _
              go_simp
              (try with_reducible rfl)
            (try simp only [Act.put, List.setIfInBounds_toArray, List.set_cons_zero, List.set_cons_succ])
            refine wpAnyJ_ready (rs := [9]) (by kernel_rfl) (by simp) ?_
            refine AllReadyJ.cons (i := 9) (o := ?ooe18) ?hoe18 (fun K9 hK9 => ?hstepe18) AllReadyJ.nil
            case hoe18 => simp only [List.getElem?_toArray, List.getElem?_cons_zero, List.getElem?_cons_succ]; rfl
            clear hHeld
            refine step_append_elder _ (by rfl) _ _ 24 (by rfl) wx.heap.size 3 i0 (.int .i64 0) 1 8 Tryz.underlying24 hi hz0 hz1 hz2 rfl (by decide) _ _ _ (by rfl) ho1 ⟨g8, 0, none⟩ 1 1 [.int .i64 (nth SU i9)] (by rfl) rfl hn8 (by simp [Value.oneCell']) (by unfold maxLen; omega) (by omega) hkb.size ?_
            intro v7 wpe18 hown7 hg7 hat7 _
            obtain ⟨Av7, cv7, rfl⟩ := own_slice hown7
            have hv7 : (Value.slice Av7 ((WF i9).length + 1) cv7).ownBlock ≠ some gT ∧ ∀ g, (Value.slice Av5 ((PF i9).length + 1) cv5).ownBlock = some g → (Value.slice Av7 ((WF i9).length + 1) cv7).ownBlock ≠ some g := by
              have h := new_apartI hbl.lt hne1 hown5 (fun g e e2 => hv5.2 g e2 e) hat7
              exact ⟨h.1, fun g e e2 => h.2 g e2 e⟩
            have hr7 : ∀ g, (Value.slice A1 (WF i9).length c1).ownBlock = some g → wx.heap.size ≤ g := fun g e => (ho1.lt g e).1
            replace t0 := grown_cell hg7 t0 hne1
            replace t1 := grown_cell hg7 t1 hne1
            replace hbl := hbl.grown hg7 hne1
            replace hL := hL.grown hg7 (own_no ho1 hLx)
            replace hown5 := own_keptv hown5 hg7 (fun g e e2 => hv5.2 g e e2)
            replace hw := Below.grown hw hg7 hw.size (fun g e => Nat.le_trans hwle (hr7 g e))
            replace hkb := hkb.grown hg7 hr7
            clear ho1 hn8 hr7 hg7 hat7
            refine hK9.out _ _ ⟨t0, t1, hw⟩ (fun hHeld => ?_)
            clear hK9 K9
            (try simp only [Act.put, List.setIfInBounds_toArray, List.set_cons_zero, List.set_cons_succ])
            refine wpAnyJ_ready (rs := [11]) (by kernel_rfl) (by simp) ?_
            refine AllReadyJ.free (i := 11) (o := ?ooe19) ?hoe19 (by rfl) (fun K9 hK9 => ?hstepe19) AllReadyJ.nil
            case hoe19 => simp only [List.getElem?_toArray, List.getElem?_cons_zero, List.getElem?_cons_succ]; rfl
            have hff := hbl.free 0
            go_simp
            refine hK9.out _ _ trivial (fun _ => ?_)
            clear hK9 K9
            (try simp only [Act.put, List.setIfInBounds_toArray, List.set_cons_zero, List.set_cons_succ])
            refine wpAnyJ_call (fun wve19 hwz => ?_)
            replace hbl := hbl.set0 (Value.slice Av5 ((PF i9).length + 1) cv5)
            replace hL := RowX.far (q := gT) (j := 0) (v := (Value.slice Av5 ((PF i9).length + 1) cv5)) hL hTL.symm
            replace hown5 := own_keptv hown5 (grown_set1 _ gT 0 (Value.slice Av5 ((PF i9).length + 1) cv5)) (fun g e e2 => hv5.1 (by rw [e, ← e2]))
            replace hown7 := own_keptv hown7 (grown_set1 _ gT 0 (Value.slice Av5 ((PF i9).length + 1) cv5)) (fun g e e2 => hv7.1 (by rw [e, ← e2]))
            replace hkb := hkb.set0 0 (Value.slice Av5 ((PF i9).length + 1) cv5)
            replace hw := Below.setCell' (p := ⟨gT, 0, none⟩) hwT hw (Value.slice Av5 ((PF i9).length + 1) cv5)
            rw [← hwz] at hbl hL hown5 hown7 hkb hw
            clear t0 t1 hff
            have t0 := hbl.c0
            have t1 := hbl.c1
            clear hwz
            refine wpAnyJ_pure (i := 12) (oi := ?ooe20) (v := ?vve20) ?hie20 (by kernel_rfl) (by kernel_rfl) (by kernel_rfl) (by rfl) ?hqe20 (Or.inl ⟨?hge20, ?hye20⟩) ?reste20
            case hie20 => simp only [List.getElem?_toArray, List.getElem?_cons_zero, List.getElem?_cons_succ]; rfl
            case hqe20 => exact fun _ _ _ h => h
            case hge20 => rfl
            case hye20 =>
              intro wq _
              go_simp
              (try with_reducible rfl)
            (try simp only [Act.put, List.setIfInBounds_toArray, List.set_cons_zero, List.set_cons_succ])
            refine wpAnyJ_ready (rs := [13]) (by kernel_rfl) (by simp) ?_
            refine AllReadyJ.free (i := 13) (o := ?ooe21) ?hoe21 (by rfl) (fun K9 hK9 => ?hstepe21) AllReadyJ.nil
            case hoe21 => simp only [List.getElem?_toArray, List.getElem?_cons_zero, List.getElem?_cons_succ]; rfl
            have hff := hbl.free 1
            go_simp
            refine hK9.out _ _ trivial (fun _ => ?_)
            clear hK9 K9
            (try simp only [Act.put, List.setIfInBounds_toArray, List.set_cons_zero, List.set_cons_succ])
            refine wpAnyJ_call (fun wve21 hwz => ?_)
            replace hbl := hbl.set1 (Value.slice Av7 ((WF i9).length + 1) cv7)
            replace hL := RowX.far (q := gT) (j := 1) (v := (Value.slice Av7 ((WF i9).length + 1) cv7)) hL hTL.symm
            replace hown5 := own_keptv hown5 (grown_set1 _ gT 1 (Value.slice Av7 ((WF i9).length + 1) cv7)) (fun g e e2 => hv5.1 (by rw [e, ← e2]))
            replace hown7 := own_keptv hown7 (grown_set1 _ gT 1 (Value.slice Av7 ((WF i9).length + 1) cv7)) (fun g e e2 => hv7.1 (by rw [e, ← e2]))
            replace hkb := hkb.set0 1 (Value.slice Av7 ((WF i9).length + 1) cv7)
            replace hw := Below.setCell' (p := ⟨gT, 1, none⟩) hwT hw (Value.slice Av7 ((WF i9).length + 1) cv7)
            rw [← hwz] at hbl hL hown5 hown7 hkb hw
            clear t0 t1 hff
            have t0 := hbl.c0
            have t1 := hbl.c1
            clear hwz
            clear hHeld
            refine wpAnyJ_done (by kernel_rfl) ?_ _
            have h4 : Two wve21 wx.heap.size gT (Value.slice Av5 ((PF i9).length + 1) cv5) (Value.slice Av7 ((WF i9).length + 1) cv7) ((PF i9).length + 1) ((WF i9).length + 1) (PF (i9 + 1)) (WF (i9 + 1)) := ⟨hbl, by rw [HPy.out _ hkp, hPR.out, i64s_app]; exact hown5, by rw [HWy.out _ hkp, hWT.out, i64s_app]; exact hown7, hv5.1, hv7.1, hv7.2⟩
            have HL1 : Hid ((PF i9).length + 1 = (PF (i9 + 1)).length) := by rw [HPy.out _ hkp]; exact Lib.hid (by simp)
            have HL2 : Hid ((WF i9).length + 1 = (WF (i9 + 1)).length) := by rw [HWy.out _ hkp]; exact Lib.hid (by simp)
            clear hbl hown5 hown7 t0 t1
            (try clear hcU)
            (try clear hcA)
            (try clear hAe)
            (try clear hx0')
            (try clear j0 j1 i4)
            go_wp2
            go_roundw
            case rel => first | exact ⟨i9 + 1, hlt, by omega, ⟨_, _, by rw [← HL1.out, ← HL2.out]; exact h4⟩, hL, hkb⟩ | exact ⟨i9 + 1, _, _, hlt, by go_num, by rw [← HL1.out, ← HL2.out]; exact h4, hL, hkb⟩
            case measure => simp [intOf]; exact Nat.sub_lt_sub_left hlt (Nat.lt_succ_self _)
          exact AllReadyJ.nil
        refine AllReadyJ.cons (i := 8) (o := ?ooe22) ?hoe22 (fun K9 hK9 => ?hstepe22) ?moree22
        case hoe22 => simp only [List.getElem?_toArray, List.getElem?_cons_zero, List.getElem?_cons_succ]; rfl
        case hstepe22 =>
          go_simp
          clear hHeld
          refine hK9.out _ _ ⟨keep_cell (Below.drew ((Below.refl wz.heap.size wz).alloc (Nat.le_refl _) _)) t0, keep_cell (Below.drew ((Below.refl wz.heap.size wz).alloc (Nat.le_refl _) _)) t1, Below.drew (keep_below_alloc hw _)⟩ (fun hHeld => ?_)
          clear hK9 K9
          (try simp only [Act.put, List.setIfInBounds_toArray, List.set_cons_zero, List.set_cons_succ])
          refine wpAnyJ_name hHeld (fun wae22 hHa hwz => ?_)
          have hbA : Below wz.heap.size wz wae22 := by rw [hwz]; exact Below.drew ((Below.refl wz.heap.size wz).alloc (Nat.le_refl _) _)
          have hn8 : NewsAt wae22 wz.heap.size (.int .i64 (nth SU i9)) := by rw [hwz]; exact World.news_of_block (cs := #[.int .i64 (nth SU i9)]) (t := 3) (fr := (0, 0)) (heap_alloc_new _ _)
          have hnv8 : (Value.slice A0 (PF i9).length c0).ownBlock ≠ some wz.heap.size ∧ (Value.slice A1 (WF i9).length c1).ownBlock ≠ some wz.heap.size := ⟨fun e => by have := (ho0.lt _ e).2; omega, fun e => by have := (ho1.lt _ e).2; omega⟩
          replace t0 := keep_cell hbA t0
          replace t1 := keep_cell hbA t1
          replace hbl := hbl.below hbA
          replace ho0 := own_below ho0 hbA
          replace ho1 := own_below ho1 hbA
          replace hkb := hkb.below hbA
          replace hL := hL.below hbA
          replace hw := keep_below hbA hw
          generalize wz.heap.size = g8 at hn8 hnv8 ⊢
          clear hHeld hbA hwz
          have hHeld := hHa
          clear hHa
          refine wpAnyJ_ready (rs := [3]) (by kernel_rfl) (by simp) ?_
          refine AllReadyJ.cons (i := 3) (o := ?ooe23) ?hoe23 (fun K9 hK9 => ?hstepe23) AllReadyJ.nil
          case hoe23 => simp only [List.getElem?_toArray, List.getElem?_cons_zero, List.getElem?_cons_succ]; rfl
          go_simp
          clear hHeld
          refine hK9.out _ _ ⟨keep_cell ((Below.refl wae22.heap.size wae22).alloc (Nat.le_refl _) _) t0, keep_cell ((Below.refl wae22.heap.size wae22).alloc (Nat.le_refl _) _) t1, keep_below_alloc hw _⟩ (fun hHeld => ?_)
          clear hK9 K9
          (try simp only [Act.put, List.setIfInBounds_toArray, List.set_cons_zero, List.set_cons_succ])
          refine wpAnyJ_name hHeld (fun wae23 hHa hwz => ?_)
          have hbA : Below wae22.heap.size wae22 wae23 := by rw [hwz]; exact (Below.refl wae22.heap.size wae22).alloc (Nat.le_refl _) _
          have hn3 : NewsAt wae23 wae22.heap.size (.int .i64 pq) := by rw [hwz]; exact World.news_of_block (cs := #[.int .i64 pq]) (t := 3) (fr := (0, 0)) (heap_alloc_new _ _)
          have hnv3 : (Value.slice A0 (PF i9).length c0).ownBlock ≠ some wae22.heap.size ∧ (Value.slice A1 (WF i9).length c1).ownBlock ≠ some wae22.heap.size := ⟨fun e => by have := (ho0.lt _ e).2; omega, fun e => by have := (ho1.lt _ e).2; omega⟩
          replace t0 := keep_cell hbA t0
          replace t1 := keep_cell hbA t1
          replace hbl := hbl.below hbA
          replace ho0 := own_below ho0 hbA
          replace ho1 := own_below ho1 hbA
          replace hkb := hkb.below hbA
          replace hL := hL.below hbA
          replace hn8 := hn8.below hbA
          replace hw := keep_below hbA hw
          generalize wae22.heap.size = g3 at hn3 hnv3 ⊢
          clear hHeld hbA hwz
          have hHeld := hHa
          clear hHa
          refine wpAnyJ_ready (rs := [4]) (by kernel_rfl) (by simp) ?_
          refine AllReadyJ.cons (i := 4) (o := ?ooe24) ?hoe24 (fun K9 hK9 => ?hstepe24) AllReadyJ.nil
          case hoe24 => simp only [List.getElem?_toArray, List.getElem?_cons_zero, List.getElem?_cons_succ]; rfl
          clear hHeld
          refine step_append_elder _ (by rfl) _ _ 24 (by rfl) wx.heap.size 3 i0 (.int .i64 0) 1 8 Tryz.underlying24 hi hz0 hz1 hz2 rfl (by decide) _ _ _ (by rfl) ho0 ⟨g3, 0, none⟩ 1 1 [.int .i64 pq] (by rfl) rfl hn3 (by simp [Value.oneCell']) (by unfold maxLen; omega) (by omega) hkb.size ?_
          intro v5 wpe24 hown5 hg5 hat5 _
          obtain ⟨Av5, cv5, rfl⟩ := own_slice hown5
          have hv5 := new_apartI hbl.lt hne0 ho1 hap hat5
          have hr5 : ∀ g, (Value.slice A0 (PF i9).length c0).ownBlock = some g → wx.heap.size ≤ g := fun g e => (ho0.lt g e).1
          replace t0 := grown_cell hg5 t0 hne0
          replace t1 := grown_cell hg5 t1 hne0
          replace hbl := hbl.grown hg5 hne0
          replace hL := hL.grown hg5 (own_no ho0 hLx)
          replace ho1 := own_keptv ho1 hg5 (fun g e e2 => hap g e2 e)
          replace hn8 := hn8.grown hg5 hnv8.1
          replace hw := Below.grown hw hg5 hw.size (fun g e => Nat.le_trans hwle (hr5 g e))
          replace hkb := hkb.grown hg5 hr5
          clear ho0 hn3 hr5 hg5 hat5
          refine hK9.out _ _ ⟨t0, t1, hw⟩ (fun hHeld => ?_)
          clear hK9 K9
          (try simp only [Act.put, List.setIfInBounds_toArray, List.set_cons_zero, List.set_cons_succ])
          refine wpAnyJ_pure (i := 10) (oi := ?ooe25) (v := ?vve25) ?hie25 (by kernel_rfl) (by kernel_rfl) (by kernel_rfl) (by rfl) ?hqe25 (Or.inl ⟨?hge25, ?hye25⟩) ?reste25
          case hie25 => simp only [List.getElem?_toArray, List.getElem?_cons_zero, List.getElem?_cons_succ]; rfl
          case hqe25 => exact fun _ _ _ h => h
          case hge25 => rfl
          case hye25 =>
            intro wq _
            go_simp
            (try with_reducible rfl)
          (try simp only [Act.put, List.setIfInBounds_toArray, List.set_cons_zero, List.set_cons_succ])
          refine wpAnyJ_ready (rs := [9]) (by kernel_rfl) (by simp) ?_
          refine AllReadyJ.cons (i := 9) (o := ?ooe26) ?hoe26 (fun K9 hK9 => ?hstepe26) AllReadyJ.nil
          case hoe26 => simp only [List.getElem?_toArray, List.getElem?_cons_zero, List.getElem?_cons_succ]; rfl
          clear hHeld
          refine step_append_elder _ (by rfl) _ _ 24 (by rfl) wx.heap.size 3 i0 (.int .i64 0) 1 8 Tryz.underlying24 hi hz0 hz1 hz2 rfl (by decide) _ _ _ (by rfl) ho1 ⟨g8, 0, none⟩ 1 1 [.int .i64 (nth SU i9)] (by rfl) rfl hn8 (by simp [Value.oneCell']) (by unfold maxLen; omega) (by omega) hkb.size ?_
          intro v7 wpe26 hown7 hg7 hat7 _
          obtain ⟨Av7, cv7, rfl⟩ := own_slice hown7
          have hv7 : (Value.slice Av7 ((WF i9).length + 1) cv7).ownBlock ≠ some gT ∧ ∀ g, (Value.slice Av5 ((PF i9).length + 1) cv5).ownBlock = some g → (Value.slice Av7 ((WF i9).length + 1) cv7).ownBlock ≠ some g := by
            have h := new_apartI hbl.lt hne1 hown5 (fun g e e2 => hv5.2 g e2 e) hat7
            exact ⟨h.1, fun g e e2 => h.2 g e2 e⟩
          have hr7 : ∀ g, (Value.slice A1 (WF i9).length c1).ownBlock = some g → wx.heap.size ≤ g := fun g e => (ho1.lt g e).1
          replace t0 := grown_cell hg7 t0 hne1
          replace t1 := grown_cell hg7 t1 hne1
          replace hbl := hbl.grown hg7 hne1
          replace hL := hL.grown hg7 (own_no ho1 hLx)
          replace hown5 := own_keptv hown5 hg7 (fun g e e2 => hv5.2 g e e2)
          replace hw := Below.grown hw hg7 hw.size (fun g e => Nat.le_trans hwle (hr7 g e))
          replace hkb := hkb.grown hg7 hr7
          clear ho1 hn8 hr7 hg7 hat7
          refine hK9.out _ _ ⟨t0, t1, hw⟩ (fun hHeld => ?_)
          clear hK9 K9
          (try simp only [Act.put, List.setIfInBounds_toArray, List.set_cons_zero, List.set_cons_succ])
          refine wpAnyJ_ready (rs := [11]) (by kernel_rfl) (by simp) ?_
          refine AllReadyJ.free (i := 11) (o := ?ooe27) ?hoe27 (by rfl) (fun K9 hK9 => ?hstepe27) AllReadyJ.nil
          case hoe27 => simp only [List.getElem?_toArray, List.getElem?_cons_zero, List.getElem?_cons_succ]; rfl
          have hff := hbl.free 0
          go_simp
          refine hK9.out _ _ trivial (fun _ => ?_)
          clear hK9 K9
          (try simp only [Act.put, List.setIfInBounds_toArray, List.set_cons_zero, List.set_cons_succ])
          refine wpAnyJ_call (fun wve27 hwz => ?_)
          replace hbl := hbl.set0 (Value.slice Av5 ((PF i9).length + 1) cv5)
          replace hL := RowX.far (q := gT) (j := 0) (v := (Value.slice Av5 ((PF i9).length + 1) cv5)) hL hTL.symm
          replace hown5 := own_keptv hown5 (grown_set1 _ gT 0 (Value.slice Av5 ((PF i9).length + 1) cv5)) (fun g e e2 => hv5.1 (by rw [e, ← e2]))
          replace hown7 := own_keptv hown7 (grown_set1 _ gT 0 (Value.slice Av5 ((PF i9).length + 1) cv5)) (fun g e e2 => hv7.1 (by rw [e, ← e2]))
          replace hkb := hkb.set0 0 (Value.slice Av5 ((PF i9).length + 1) cv5)
          replace hw := Below.setCell' (p := ⟨gT, 0, none⟩) hwT hw (Value.slice Av5 ((PF i9).length + 1) cv5)
          rw [← hwz] at hbl hL hown5 hown7 hkb hw
          clear t0 t1 hff
          have t0 := hbl.c0
          have t1 := hbl.c1
          clear hwz
          refine wpAnyJ_pure (i := 12) (oi := ?ooe28) (v := ?vve28) ?hie28 (by kernel_rfl) (by kernel_rfl) (by kernel_rfl) (by rfl) ?hqe28 (Or.inl ⟨?hge28, ?hye28⟩) ?reste28
          case hie28 => simp only [List.getElem?_toArray, List.getElem?_cons_zero, List.getElem?_cons_succ]; rfl
          case hqe28 => exact fun _ _ _ h => h
          case hge28 => rfl
          case hye28 =>
            intro wq _
            go_simp
            (try with_reducible rfl)
          (try simp only [Act.put, List.setIfInBounds_toArray, List.set_cons_zero, List.set_cons_succ])
          refine wpAnyJ_ready (rs := [13]) (by kernel_rfl) (by simp) ?_
          refine AllReadyJ.free (i := 13) (o := ?ooe29) ?hoe29 (by rfl) (fun K9 hK9 => ?hstepe29) AllReadyJ.nil
          case hoe29 => simp only [List.getElem?_toArray, List.getElem?_cons_zero, List.getElem?_cons_succ]; rfl
          have hff := hbl.free 1
          go_simp
          refine hK9.out _ _ trivial (fun _ => ?_)
          clear hK9 K9
          (try simp only [Act.put, List.setIfInBounds_toArray, List.set_cons_zero, List.set_cons_succ])
          refine wpAnyJ_call (fun wve29 hwz => ?_)
          replace hbl := hbl.set1 (Value.slice Av7 ((WF i9).length + 1) cv7)
          replace hL := RowX.far (q := gT) (j := 1) (v := (Value.slice Av7 ((WF i9).length + 1) cv7)) hL hTL.symm
          replace hown5 := own_keptv hown5 (grown_set1 _ gT 1 (Value.slice Av7 ((WF i9).length + 1) cv7)) (fun g e e2 => hv5.1 (by rw [e, ← e2]))
          replace hown7 := own_keptv hown7 (grown_set1 _ gT 1 (Value.slice Av7 ((WF i9).length + 1) cv7)) (fun g e e2 => hv7.1 (by rw [e, ← e2]))
          replace hkb := hkb.set0 1 (Value.slice Av7 ((WF i9).length + 1) cv7)
          replace hw := Below.setCell' (p := ⟨gT, 1, none⟩) hwT hw (Value.slice Av7 ((WF i9).length + 1) cv7)
          rw [← hwz] at hbl hL hown5 hown7 hkb hw
          clear t0 t1 hff
          have t0 := hbl.c0
          have t1 := hbl.c1
          clear hwz
          clear hHeld
          refine wpAnyJ_done (by kernel_rfl) ?_ _
          have h4 : Two wve29 wx.heap.size gT (Value.slice Av5 ((PF i9).length + 1) cv5) (Value.slice Av7 ((WF i9).length + 1) cv7) ((PF i9).length + 1) ((WF i9).length + 1) (PF (i9 + 1)) (WF (i9 + 1)) := ⟨hbl, by rw [HPy.out _ hkp, hPR.out, i64s_app]; exact hown5, by rw [HWy.out _ hkp, hWT.out, i64s_app]; exact hown7, hv5.1, hv7.1, hv7.2⟩
          have HL1 : Hid ((PF i9).length + 1 = (PF (i9 + 1)).length) := by rw [HPy.out _ hkp]; exact Lib.hid (by simp)
          have HL2 : Hid ((WF i9).length + 1 = (WF (i9 + 1)).length) := by rw [HWy.out _ hkp]; exact Lib.hid (by simp)
          clear hbl hown5 hown7 t0 t1
          (try clear hcU)
          (try clear hcA)
          (try clear hAe)
          (try clear hx0')
          (try clear j0 j1 i4)
          go_wp2
          go_roundw
          case rel => first | exact ⟨i9 + 1, hlt, by omega, ⟨_, _, by rw [← HL1.out, ← HL2.out]; exact h4⟩, hL, hkb⟩ | exact ⟨i9 + 1, _, _, hlt, by go_num, by rw [← HL1.out, ← HL2.out]; exact h4, hL, hkb⟩
          case measure => simp [intOf]; exact Nat.sub_lt_sub_left hlt (Nat.lt_succ_self _)
        exact AllReadyJ.nil
      have i5 : (nth DP i9 == d9) = false := by rw [beq_eq_false_iff_ne]; exact hdd
      by_cases hen : EN i9 = true
      case pos =>
        have hWT : Hid (WT i9 = nth SU i9) := Lib.hid (hWi.1 (.inr hen))
        rw [hen] at hcE
        clear hWi hkd hdd hen
        go_upto_region 15 with (fail)
        have hbl := h2.blk
        have ho0 := h2.own0
        have ho1 := h2.own1
        have hne0 := h2.ne0
        have hne1 := h2.ne1
        have hap := h2.ap
        have t0 := hbl.c0
        have t1 := hbl.c1
        clear h2
        refine wp_region_J (S := fun w' => w'.cell? ⟨gT, 0, none⟩ = some (.slice A0 (PF i9).length c0) ∧ w'.cell? ⟨gT, 1, none⟩ = some (.slice A1 (WF i9).length c1) ∧ Below w.heap.size w w') (fun j => j == 1 || j == 3 || j == 4 || j == 6 || j == 8 || j == 9) (by kernel_rfl) ⟨t0, t1, hw.drew⟩ (fun hHeld => ?_)
        refine wpAnyJ_pure (i := 0) (oi := ?oof1) (v := ?vvf1) ?hif1 (by kernel_rfl) (by kernel_rfl) (by kernel_rfl) (by rfl) ?hqf1 (Or.inl ⟨?hgf1, ?hyf1⟩) ?restf1
        case hif1 => simp only [List.getElem?_toArray, List.getElem?_cons_zero]; rfl
        case hqf1 => exact fun _ _ _ h => h
        case hgf1 => rfl
        case hyf1 =>
          intro wq _
          go_simp
          (try with_reducible rfl)
        (try simp only [Act.put, List.setIfInBounds_toArray, List.set_cons_zero, List.set_cons_succ])
        refine wpAnyJ_pure (i := 2) (oi := ?oof2) (v := ?vvf2) ?hif2 (by kernel_rfl) (by kernel_rfl) (by kernel_rfl) (by rfl) ?hqf2 (Or.inl ⟨?hgf2, ?hyf2⟩) ?restf2
        case hif2 => simp only [List.getElem?_toArray, List.getElem?_cons_zero, List.getElem?_cons_succ]; rfl
        case hqf2 => exact fun _ _ _ h => h
        case hgf2 => rfl
        case hyf2 =>
          intro wq _
          go_simp
          (try with_reducible rfl)
        (try simp only [Act.put, List.setIfInBounds_toArray, List.set_cons_zero, List.set_cons_succ])
        refine wpAnyJ_pure (i := 5) (oi := ?oof3) (v := ?vvf3) ?hif3 (by kernel_rfl) (by kernel_rfl) (by kernel_rfl) (by rfl) ?hqf3 (Or.inl ⟨?hgf3, ?hyf3⟩) ?restf3
        case hif3 => simp only [List.getElem?_toArray, List.getElem?_cons_zero, List.getElem?_cons_succ]; rfl
        case hqf3 => exact fun _ _ _ h => h
        case hgf3 => rfl
        case hyf3 =>
          intro wq _
          go_simp
          (try with_reducible rfl)
        (try simp only [Act.put, List.setIfInBounds_toArray, List.set_cons_zero, List.set_cons_succ])
        refine wpAnyJ_pure (i := 7) (oi := ?oof4) (v := ?vvf4) ?hif4 (by kernel_rfl) (by kernel_rfl) (by kernel_rfl) (by rfl) ?hqf4 (Or.inl ⟨?hgf4, ?hyf4⟩) ?restf4
        case hif4 => simp only [List.getElem?_toArray, List.getElem?_cons_zero, List.getElem?_cons_succ]; rfl
        case hqf4 => exact fun _ _ _ h => h
        case hgf4 => rfl
        case hyf4 =>
          intro wq _
          go_simp
          (try with_reducible rfl)
        (try simp only [Act.put, List.setIfInBounds_toArray, List.set_cons_zero, List.set_cons_succ])
        refine wpAnyJ_take (i := 1) (oi := ?oof5) (v := ?vvf5) ?hif5 (by kernel_rfl) (by kernel_rfl) (by kernel_rfl) (by kernel_rfl) ?hqf5 (Or.inl ⟨?hgf5, ?hyf5⟩) (by assumption) ?restf5
        case hif5 => simp only [List.getElem?_toArray, List.getElem?_cons_zero, List.getElem?_cons_succ]; rfl
        case hqf5 => exact fun _ _ _ h => h
        case hgf5 => rfl
        case hyf5 =>
          intro wq hSw
          obtain ⟨t0, t1, hw⟩ := hSw
          go_simp
          (try with_reducible rfl)
        (try simp only [Act.put, List.setIfInBounds_toArray, List.set_cons_zero, List.set_cons_succ])
        refine wpAnyJ_take (i := 6) (oi := ?oof6) (v := ?vvf6) ?hif6 (by kernel_rfl) (by kernel_rfl) (by kernel_rfl) (by kernel_rfl) ?hqf6 (Or.inl ⟨?hgf6, ?hyf6⟩) (by assumption) ?restf6
        case hif6 => simp only [List.getElem?_toArray, List.getElem?_cons_zero, List.getElem?_cons_succ]; rfl
        case hqf6 => exact fun _ _ _ h => h
        case hgf6 => rfl
        case hyf6 =>
          intro wq hSw
          obtain ⟨t0, t1, hw⟩ := hSw
          go_simp
          (try with_reducible rfl)
        (try simp only [Act.put, List.setIfInBounds_toArray, List.set_cons_zero, List.set_cons_succ])
        refine wpAnyJ_ready (rs := [3, 8]) (by kernel_rfl) (by simp) ?_
        refine AllReadyJ.cons (i := 3) (o := ?oof7) ?hof7 (fun K9 hK9 => ?hstepf7) ?moref7
        case hof7 => simp only [List.getElem?_toArray, List.getElem?_cons_zero, List.getElem?_cons_succ]; rfl
        case hstepf7 =>
          go_simp
          clear hHeld
          refine hK9.out _ _ ⟨keep_cell (Below.drew ((Below.refl wz.heap.size wz).alloc (Nat.le_refl _) _)) t0, keep_cell (Below.drew ((Below.refl wz.heap.size wz).alloc (Nat.le_refl _) _)) t1, Below.drew (keep_below_alloc hw _)⟩ (fun hHeld => ?_)
          clear hK9 K9
          (try simp only [Act.put, List.setIfInBounds_toArray, List.set_cons_zero, List.set_cons_succ])
          refine wpAnyJ_name hHeld (fun waf7 hHa hwz => ?_)
          have hbA : Below wz.heap.size wz waf7 := by rw [hwz]; exact Below.drew ((Below.refl wz.heap.size wz).alloc (Nat.le_refl _) _)
          have hn3 : NewsAt waf7 wz.heap.size (.int .i64 pq) := by rw [hwz]; exact World.news_of_block (cs := #[.int .i64 pq]) (t := 3) (fr := (0, 0)) (heap_alloc_new _ _)
          have hnv3 : (Value.slice A0 (PF i9).length c0).ownBlock ≠ some wz.heap.size ∧ (Value.slice A1 (WF i9).length c1).ownBlock ≠ some wz.heap.size := ⟨fun e => by have := (ho0.lt _ e).2; omega, fun e => by have := (ho1.lt _ e).2; omega⟩
          replace t0 := keep_cell hbA t0
          replace t1 := keep_cell hbA t1
          replace hbl := hbl.below hbA
          replace ho0 := own_below ho0 hbA
          replace ho1 := own_below ho1 hbA
          replace hkb := hkb.below hbA
          replace hL := hL.below hbA
          replace hw := keep_below hbA hw
          generalize wz.heap.size = g3 at hn3 hnv3 ⊢
          clear hHeld hbA hwz
          have hHeld := hHa
          clear hHa
          refine wpAnyJ_ready (rs := [4, 8]) (by kernel_rfl) (by simp) ?_
          refine AllReadyJ.cons (i := 4) (o := ?oof8) ?hof8 (fun K9 hK9 => ?hstepf8) ?moref8
          case hof8 => simp only [List.getElem?_toArray, List.getElem?_cons_zero, List.getElem?_cons_succ]; rfl
          case hstepf8 =>
            clear hHeld
            refine step_append_elder _ (by rfl) _ _ 24 (by rfl) wx.heap.size 3 i0 (.int .i64 0) 1 8 Tryz.underlying24 hi hz0 hz1 hz2 rfl (by decide) _ _ _ (by rfl) ho0 ⟨g3, 0, none⟩ 1 1 [.int .i64 pq] (by rfl) rfl hn3 (by simp [Value.oneCell']) (by unfold maxLen; omega) (by omega) hkb.size ?_
            intro v5 wpf8 hown5 hg5 hat5 _
            obtain ⟨Av5, cv5, rfl⟩ := own_slice hown5
            have hv5 := new_apartI hbl.lt hne0 ho1 hap hat5
            have hr5 : ∀ g, (Value.slice A0 (PF i9).length c0).ownBlock = some g → wx.heap.size ≤ g := fun g e => (ho0.lt g e).1
            replace t0 := grown_cell hg5 t0 hne0
            replace t1 := grown_cell hg5 t1 hne0
            replace hbl := hbl.grown hg5 hne0
            replace hL := hL.grown hg5 (own_no ho0 hLx)
            replace ho1 := own_keptv ho1 hg5 (fun g e e2 => hap g e2 e)
            replace hw := Below.grown hw hg5 hw.size (fun g e => Nat.le_trans hwle (hr5 g e))
            replace hkb := hkb.grown hg5 hr5
            clear ho0 hn3 hr5 hg5 hat5
            refine hK9.out _ _ ⟨t0, t1, hw⟩ (fun hHeld => ?_)
            clear hK9 K9
            (try simp only [Act.put, List.setIfInBounds_toArray, List.set_cons_zero, List.set_cons_succ])
            refine wpAnyJ_pure (i := 10) (oi := ?oof9) (v := ?vvf9) ?hif9 (by kernel_rfl) (by kernel_rfl) (by kernel_rfl) (by rfl) ?hqf9 (Or.inl ⟨?hgf9, ?hyf9⟩) ?restf9
            case hif9 => simp only [List.getElem?_toArray, List.getElem?_cons_zero, List.getElem?_cons_succ]; rfl
            case hqf9 => exact fun _ _ _ h => h
            case hgf9 => rfl
            case hyf9 =>
              intro wq _
              go_simp
              (try with_reducible rfl)
            (try simp only [Act.put, List.setIfInBounds_toArray, List.set_cons_zero, List.set_cons_succ])
            refine wpAnyJ_ready (rs := [8]) (by kernel_rfl) (by simp) ?_
            refine AllReadyJ.cons (i := 8) (o := ?oof10) ?hof10 (fun K9 hK9 => ?hstepf10) AllReadyJ.nil
            case hof10 => simp only [List.getElem?_toArray, List.getElem?_cons_zero, List.getElem?_cons_succ]; rfl
            go_simp
            clear hHeld
            refine hK9.out _ _ ⟨keep_cell ((Below.refl wpf8.heap.size wpf8).alloc (Nat.le_refl _) _) t0, keep_cell ((Below.refl wpf8.heap.size wpf8).alloc (Nat.le_refl _) _) t1, keep_below_alloc hw _⟩ (fun hHeld => ?_)
            clear hK9 K9
            (try simp only [Act.put, List.setIfInBounds_toArray, List.set_cons_zero, List.set_cons_succ])
            refine wpAnyJ_name hHeld (fun waf10 hHa hwz => ?_)
            have hbA : Below wpf8.heap.size wpf8 waf10 := by rw [hwz]; exact (Below.refl wpf8.heap.size wpf8).alloc (Nat.le_refl _) _
            have hn8 : NewsAt waf10 wpf8.heap.size (.int .i64 (nth SU i9)) := by rw [hwz]; exact World.news_of_block (cs := #[.int .i64 (nth SU i9)]) (t := 3) (fr := (0, 0)) (heap_alloc_new _ _)
            have hnv8 : True ∧ (Value.slice A1 (WF i9).length c1).ownBlock ≠ some wpf8.heap.size := ⟨trivial, fun e => by have := (ho1.lt _ e).2; omega⟩
            replace t0 := keep_cell hbA t0
            replace t1 := keep_cell hbA t1
            replace hbl := hbl.below hbA
            replace ho1 := own_below ho1 hbA
            replace hkb := hkb.below hbA
            replace hL := hL.below hbA
            replace hown5 := own_below hown5 hbA
            replace hw := keep_below hbA hw
            generalize wpf8.heap.size = g8 at hn8 hnv8 ⊢
            clear hHeld hbA hwz
            have hHeld := hHa
            clear hHa
            refine wpAnyJ_ready (rs := [9]) (by kernel_rfl) (by simp) ?_
            refine AllReadyJ.cons (i := 9) (o := ?oof11) ?hof11 (fun K9 hK9 => ?hstepf11) AllReadyJ.nil
            case hof11 => simp only [List.getElem?_toArray, List.getElem?_cons_zero, List.getElem?_cons_succ]; rfl
            clear hHeld
            refine step_append_elder _ (by rfl) _ _ 24 (by rfl) wx.heap.size 3 i0 (.int .i64 0) 1 8 Tryz.underlying24 hi hz0 hz1 hz2 rfl (by decide) _ _ _ (by rfl) ho1 ⟨g8, 0, none⟩ 1 1 [.int .i64 (nth SU i9)] (by rfl) rfl hn8 (by simp [Value.oneCell']) (by unfold maxLen; omega) (by omega) hkb.size ?_
            intro v7 wpf11 hown7 hg7 hat7 _
            obtain ⟨Av7, cv7, rfl⟩ := own_slice hown7
            have hv7 : (Value.slice Av7 ((WF i9).length + 1) cv7).ownBlock ≠ some gT ∧ ∀ g, (Value.slice Av5 ((PF i9).length + 1) cv5).ownBlock = some g → (Value.slice Av7 ((WF i9).length + 1) cv7).ownBlock ≠ some g := by
              have h := new_apartI hbl.lt hne1 hown5 (fun g e e2 => hv5.2 g e2 e) hat7
              exact ⟨h.1, fun g e e2 => h.2 g e2 e⟩
            have hr7 : ∀ g, (Value.slice A1 (WF i9).length c1).ownBlock = some g → wx.heap.size ≤ g := fun g e => (ho1.lt g e).1
            replace t0 := grown_cell hg7 t0 hne1
            replace t1 := grown_cell hg7 t1 hne1
            replace hbl := hbl.grown hg7 hne1
            replace hL := hL.grown hg7 (own_no ho1 hLx)
            replace hown5 := own_keptv hown5 hg7 (fun g e e2 => hv5.2 g e e2)
            replace hw := Below.grown hw hg7 hw.size (fun g e => Nat.le_trans hwle (hr7 g e))
            replace hkb := hkb.grown hg7 hr7
            clear ho1 hn8 hr7 hg7 hat7
            refine hK9.out _ _ ⟨t0, t1, hw⟩ (fun hHeld => ?_)
            clear hK9 K9
            (try simp only [Act.put, List.setIfInBounds_toArray, List.set_cons_zero, List.set_cons_succ])
            refine wpAnyJ_ready (rs := [11]) (by kernel_rfl) (by simp) ?_
            refine AllReadyJ.free (i := 11) (o := ?oof12) ?hof12 (by rfl) (fun K9 hK9 => ?hstepf12) AllReadyJ.nil
            case hof12 => simp only [List.getElem?_toArray, List.getElem?_cons_zero, List.getElem?_cons_succ]; rfl
            have hff := hbl.free 0
            go_simp
            refine hK9.out _ _ trivial (fun _ => ?_)
            clear hK9 K9
            (try simp only [Act.put, List.setIfInBounds_toArray, List.set_cons_zero, List.set_cons_succ])
            refine wpAnyJ_call (fun wvf12 hwz => ?_)
            replace hbl := hbl.set0 (Value.slice Av5 ((PF i9).length + 1) cv5)
            replace hL := RowX.far (q := gT) (j := 0) (v := (Value.slice Av5 ((PF i9).length + 1) cv5)) hL hTL.symm
            replace hown5 := own_keptv hown5 (grown_set1 _ gT 0 (Value.slice Av5 ((PF i9).length + 1) cv5)) (fun g e e2 => hv5.1 (by rw [e, ← e2]))
            replace hown7 := own_keptv hown7 (grown_set1 _ gT 0 (Value.slice Av5 ((PF i9).length + 1) cv5)) (fun g e e2 => hv7.1 (by rw [e, ← e2]))
            replace hkb := hkb.set0 0 (Value.slice Av5 ((PF i9).length + 1) cv5)
            replace hw := Below.setCell' (p := ⟨gT, 0, none⟩) hwT hw (Value.slice Av5 ((PF i9).length + 1) cv5)
            rw [← hwz] at hbl hL hown5 hown7 hkb hw
            clear t0 t1 hff
            have t0 := hbl.c0
            have t1 := hbl.c1
            clear hwz
            refine wpAnyJ_pure (i := 12) (oi := ?oof13) (v := ?vvf13) ?hif13 (by kernel_rfl) (by kernel_rfl) (by kernel_rfl) (by rfl) ?hqf13 (Or.inl ⟨?hgf13, ?hyf13⟩) ?restf13
            case hif13 => simp only [List.getElem?_toArray, List.getElem?_cons_zero, List.getElem?_cons_succ]; rfl
            case hqf13 => exact fun _ _ _ h => h
            case hgf13 => rfl
            case hyf13 =>
              intro wq _
              go_simp
              (try with_reducible rfl)
            (try simp only [Act.put, List.setIfInBounds_toArray, List.set_cons_zero, List.set_cons_succ])
            refine wpAnyJ_ready (rs := [13]) (by kernel_rfl) (by simp) ?_
            refine AllReadyJ.free (i := 13) (o := ?oof14) ?hof14 (by rfl) (fun K9 hK9 => ?hstepf14) AllReadyJ.nil
            case hof14 => simp only [List.getElem?_toArray, List.getElem?_cons_zero, List.getElem?_cons_succ]; rfl
            have hff := hbl.free 1
            go_simp
            refine hK9.out _ _ trivial (fun _ => ?_)
            clear hK9 K9
            (try simp only [Act.put, List.setIfInBounds_toArray, List.set_cons_zero, List.set_cons_succ])
            refine wpAnyJ_call (fun wvf14 hwz => ?_)
            replace hbl := hbl.set1 (Value.slice Av7 ((WF i9).length + 1) cv7)
            replace hL := RowX.far (q := gT) (j := 1) (v := (Value.slice Av7 ((WF i9).length + 1) cv7)) hL hTL.symm
            replace hown5 := own_keptv hown5 (grown_set1 _ gT 1 (Value.slice Av7 ((WF i9).length + 1) cv7)) (fun g e e2 => hv5.1 (by rw [e, ← e2]))
            replace hown7 := own_keptv hown7 (grown_set1 _ gT 1 (Value.slice Av7 ((WF i9).length + 1) cv7)) (fun g e e2 => hv7.1 (by rw [e, ← e2]))
            replace hkb := hkb.set0 1 (Value.slice Av7 ((WF i9).length + 1) cv7)
            replace hw := Below.setCell' (p := ⟨gT, 1, none⟩) hwT hw (Value.slice Av7 ((WF i9).length + 1) cv7)
            rw [← hwz] at hbl hL hown5 hown7 hkb hw
            clear t0 t1 hff
            have t0 := hbl.c0
            have t1 := hbl.c1
            clear hwz
            clear hHeld
            refine wpAnyJ_done (by kernel_rfl) ?_ _
            have h4 : Two wvf14 wx.heap.size gT (Value.slice Av5 ((PF i9).length + 1) cv5) (Value.slice Av7 ((WF i9).length + 1) cv7) ((PF i9).length + 1) ((WF i9).length + 1) (PF (i9 + 1)) (WF (i9 + 1)) := ⟨hbl, by rw [HPy.out _ hkp, hPR.out, i64s_app]; exact hown5, by rw [HWy.out _ hkp, hWT.out, i64s_app]; exact hown7, hv5.1, hv7.1, hv7.2⟩
            have HL1 : Hid ((PF i9).length + 1 = (PF (i9 + 1)).length) := by rw [HPy.out _ hkp]; exact Lib.hid (by simp)
            have HL2 : Hid ((WF i9).length + 1 = (WF (i9 + 1)).length) := by rw [HWy.out _ hkp]; exact Lib.hid (by simp)
            clear hbl hown5 hown7 t0 t1
            (try clear hcU)
            (try clear hcA)
            (try clear hAe)
            (try clear hx0')
            (try clear j0 j1 i4)
            go_wp2
            go_roundw
            case rel => first | exact ⟨i9 + 1, hlt, by omega, ⟨_, _, by rw [← HL1.out, ← HL2.out]; exact h4⟩, hL, hkb⟩ | exact ⟨i9 + 1, _, _, hlt, by go_num, by rw [← HL1.out, ← HL2.out]; exact h4, hL, hkb⟩
            case measure => simp [intOf]; exact Nat.sub_lt_sub_left hlt (Nat.lt_succ_self _)
          refine AllReadyJ.cons (i := 8) (o := ?oof15) ?hof15 (fun K9 hK9 => ?hstepf15) ?moref15
          case hof15 => simp only [List.getElem?_toArray, List.getElem?_cons_zero, List.getElem?_cons_succ]; rfl
          case hstepf15 =>
            go_simp
            clear hHeld
            refine hK9.out _ _ ⟨keep_cell ((Below.refl waf7.heap.size waf7).alloc (Nat.le_refl _) _) t0, keep_cell ((Below.refl waf7.heap.size waf7).alloc (Nat.le_refl _) _) t1, keep_below_alloc hw _⟩ (fun hHeld => ?_)
            clear hK9 K9
            (try simp only [Act.put, List.setIfInBounds_toArray, List.set_cons_zero, List.set_cons_succ])
            refine wpAnyJ_name hHeld (fun waf15 hHa hwz => ?_)
            have hbA : Below waf7.heap.size waf7 waf15 := by rw [hwz]; exact (Below.refl waf7.heap.size waf7).alloc (Nat.le_refl _) _
            have hn8 : NewsAt waf15 waf7.heap.size (.int .i64 (nth SU i9)) := by rw [hwz]; exact World.news_of_block (cs := #[.int .i64 (nth SU i9)]) (t := 3) (fr := (0, 0)) (heap_alloc_new _ _)
            have hnv8 : (Value.slice A0 (PF i9).length c0).ownBlock ≠ some waf7.heap.size ∧ (Value.slice A1 (WF i9).length c1).ownBlock ≠ some waf7.heap.size := ⟨fun e => by have := (ho0.lt _ e).2; omega, fun e => by have := (ho1.lt _ e).2; omega⟩
            replace t0 := keep_cell hbA t0
            replace t1 := keep_cell hbA t1
            replace hbl := hbl.below hbA
            replace ho0 := own_below ho0 hbA
            replace ho1 := own_below ho1 hbA
            replace hkb := hkb.below hbA
            replace hL := hL.below hbA
            replace hn3 := hn3.below hbA
            replace hw := keep_below hbA hw
            generalize waf7.heap.size = g8 at hn8 hnv8 ⊢
            clear hHeld hbA hwz
            have hHeld := hHa
            clear hHa
            refine wpAnyJ_ready (rs := [4]) (by kernel_rfl) (by simp) ?_
            refine AllReadyJ.cons (i := 4) (o := ?oof16) ?hof16 (fun K9 hK9 => ?hstepf16) AllReadyJ.nil
            case hof16 => simp only [List.getElem?_toArray, List.getElem?_cons_zero, List.getElem?_cons_succ]; rfl
            clear hHeld
            refine step_append_elder _ (by rfl) _ _ 24 (by rfl) wx.heap.size 3 i0 (.int .i64 0) 1 8 Tryz.underlying24 hi hz0 hz1 hz2 rfl (by decide) _ _ _ (by rfl) ho0 ⟨g3, 0, none⟩ 1 1 [.int .i64 pq] (by rfl) rfl hn3 (by simp [Value.oneCell']) (by unfold maxLen; omega) (by omega) hkb.size ?_
            intro v5 wpf16 hown5 hg5 hat5 _
            obtain ⟨Av5, cv5, rfl⟩ := own_slice hown5
            have hv5 := new_apartI hbl.lt hne0 ho1 hap hat5
            have hr5 : ∀ g, (Value.slice A0 (PF i9).length c0).ownBlock = some g → wx.heap.size ≤ g := fun g e => (ho0.lt g e).1
            replace t0 := grown_cell hg5 t0 hne0
            replace t1 := grown_cell hg5 t1 hne0
            replace hbl := hbl.grown hg5 hne0
            replace hL := hL.grown hg5 (own_no ho0 hLx)
            replace ho1 := own_keptv ho1 hg5 (fun g e e2 => hap g e2 e)
            replace hn8 := hn8.grown hg5 hnv8.1
            replace hw := Below.grown hw hg5 hw.size (fun g e => Nat.le_trans hwle (hr5 g e))
            replace hkb := hkb.grown hg5 hr5
            clear ho0 hn3 hr5 hg5 hat5
            refine hK9.out _ _ ⟨t0, t1, hw⟩ (fun hHeld => ?_)
            clear hK9 K9
            (try simp only [Act.put, List.setIfInBounds_toArray, List.set_cons_zero, List.set_cons_succ])
            refine wpAnyJ_pure (i := 10) (oi := ?oof17) (v := ?vvf17) ?hif17 (by kernel_rfl) (by kernel_rfl) (by kernel_rfl) (by rfl) ?hqf17 (Or.inl ⟨?hgf17, ?hyf17⟩) ?restf17
            case hif17 => simp only [List.getElem?_toArray, List.getElem?_cons_zero, List.getElem?_cons_succ]; rfl
            case hqf17 => exact fun _ _ _ h => h
            case hgf17 => rfl
            case hyf17 =>
              intro wq _
              go_simp
              (try with_reducible rfl)
            (try simp only [Act.put, List.setIfInBounds_toArray, List.set_cons_zero, List.set_cons_succ])
            refine wpAnyJ_ready (rs := [9]) (by kernel_rfl) (by simp) ?_
            refine AllReadyJ.cons (i := 9) (o := ?oof18) ?hof18 (fun K9 hK9 => ?hstepf18) AllReadyJ.nil
            case hof18 => simp only [List.getElem?_toArray, List.getElem?_cons_zero, List.getElem?_cons_succ]; rfl
            clear hHeld
            refine step_append_elder _ (by rfl) _ _ 24 (by rfl) wx.heap.size 3 i0 (.int .i64 0) 1 8 Tryz.underlying24 hi hz0 hz1 hz2 rfl (by decide) _ _ _ (by rfl) ho1 ⟨g8, 0, none⟩ 1 1 [.int .i64 (nth SU i9)] (by rfl) rfl hn8 (by simp [Value.oneCell']) (by unfold maxLen; omega) (by omega) hkb.size ?_
            intro v7 wpf18 hown7 hg7 hat7 _
            obtain ⟨Av7, cv7, rfl⟩ := own_slice hown7
            have hv7 : (Value.slice Av7 ((WF i9).length + 1) cv7).ownBlock ≠ some gT ∧ ∀ g, (Value.slice Av5 ((PF i9).length + 1) cv5).ownBlock = some g → (Value.slice Av7 ((WF i9).length + 1) cv7).ownBlock ≠ some g := by
              have h := new_apartI hbl.lt hne1 hown5 (fun g e e2 => hv5.2 g e2 e) hat7
              exact ⟨h.1, fun g e e2 => h.2 g e2 e⟩
            have hr7 : ∀ g, (Value.slice A1 (WF i9).length c1).ownBlock = some g → wx.heap.size ≤ g := fun g e => (ho1.lt g e).1
            replace t0 := grown_cell hg7 t0 hne1
            replace t1 := grown_cell hg7 t1 hne1
            replace hbl := hbl.grown hg7 hne1
            replace hL := hL.grown hg7 (own_no ho1 hLx)
            replace hown5 := own_keptv hown5 hg7 (fun g e e2 => hv5.2 g e e2)
            replace hw := Below.grown hw hg7 hw.size (fun g e => Nat.le_trans hwle (hr7 g e))
            replace hkb := hkb.grown hg7 hr7
            clear ho1 hn8 hr7 hg7 hat7
            refine hK9.out _ _ ⟨t0, t1, hw⟩ (fun hHeld => ?_)
            clear hK9 K9
            (try simp only [Act.put, List.setIfInBounds_toArray, List.set_cons_zero, List.set_cons_succ])
            refine wpAnyJ_ready (rs := [11]) (by kernel_rfl) (by simp) ?_
            refine AllReadyJ.free (i := 11) (o := ?oof19) ?hof19 (by rfl) (fun K9 hK9 => ?hstepf19) AllReadyJ.nil
            case hof19 => simp only [List.getElem?_toArray, List.getElem?_cons_zero, List.getElem?_cons_succ]; rfl
            have hff := hbl.free 0
            go_simp
            refine hK9.out _ _ trivial (fun _ => ?_)
            clear hK9 K9
            (try simp only [Act.put, List.setIfInBounds_toArray, List.set_cons_zero, List.set_cons_succ])
            refine wpAnyJ_call (fun wvf19 hwz => ?_)
            replace hbl := hbl.set0 (Value.slice Av5 ((PF i9).length + 1) cv5)
            replace hL := RowX.far (q := gT) (j := 0) (v := (Value.slice Av5 ((PF i9).length + 1) cv5)) hL hTL.symm
            replace hown5 := own_keptv hown5 (grown_set1 _ gT 0 (Value.slice Av5 ((PF i9).length + 1) cv5)) (fun g e e2 => hv5.1 (by rw [e, ← e2]))
            replace hown7 := own_keptv hown7 (grown_set1 _ gT 0 (Value.slice Av5 ((PF i9).length + 1) cv5)) (fun g e e2 => hv7.1 (by rw [e, ← e2]))
            replace hkb := hkb.set0 0 (Value.slice Av5 ((PF i9).length + 1) cv5)
            replace hw := Below.setCell' (p := ⟨gT, 0, none⟩) hwT hw (Value.slice Av5 ((PF i9).length + 1) cv5)
            rw [← hwz] at hbl hL hown5 hown7 hkb hw
            clear t0 t1 hff
            have t0 := hbl.c0
            have t1 := hbl.c1
            clear hwz
            refine wpAnyJ_pure (i := 12) (oi := ?oof20) (v := ?vvf20) ?hif20 (by kernel_rfl) (by kernel_rfl) (by kernel_rfl) (by rfl) ?hqf20 (Or.inl ⟨?hgf20, ?hyf20⟩) ?restf20
            case hif20 => simp only [List.getElem?_toArray, List.getElem?_cons_zero, List.getElem?_cons_succ]; rfl
            case hqf20 => exact fun _ _ _ h => h
            case hgf20 => rfl
            case hyf20 =>
              intro wq _
              go_simp
              (try with_reducible rfl)
            (try simp only [Act.put, List.setIfInBounds_toArray, List.set_cons_zero, List.set_cons_succ])
            refine wpAnyJ_ready (rs := [13]) (by kernel_rfl) (by simp) ?_
            refine AllReadyJ.free (i := 13) (o := ?oof21) ?hof21 (by rfl) (fun K9 hK9 => ?hstepf21) AllReadyJ.nil
            case hof21 => simp only [List.getElem?_toArray, List.getElem?_cons_zero, List.getElem?_cons_succ]; rfl
            have hff := hbl.free 1
            go_simp
            refine hK9.out _ _ trivial (fun _ => ?_)
            clear hK9 K9
            (try simp only [Act.put, List.setIfInBounds_toArray, List.set_cons_zero, List.set_cons_succ])
            refine wpAnyJ_call (fun wvf21 hwz => ?_)
            replace hbl := hbl.set1 (Value.slice Av7 ((WF i9).length + 1) cv7)
            replace hL := RowX.far (q := gT) (j := 1) (v := (Value.slice Av7 ((WF i9).length + 1) cv7)) hL hTL.symm
            replace hown5 := own_keptv hown5 (grown_set1 _ gT 1 (Value.slice Av7 ((WF i9).length + 1) cv7)) (fun g e e2 => hv5.1 (by rw [e, ← e2]))
            replace hown7 := own_keptv hown7 (grown_set1 _ gT 1 (Value.slice Av7 ((WF i9).length + 1) cv7)) (fun g e e2 => hv7.1 (by rw [e, ← e2]))
            replace hkb := hkb.set0 1 (Value.slice Av7 ((WF i9).length + 1) cv7)
            replace hw := Below.setCell' (p := ⟨gT, 1, none⟩) hwT hw (Value.slice Av7 ((WF i9).length + 1) cv7)
            rw [← hwz] at hbl hL hown5 hown7 hkb hw
            clear t0 t1 hff
            have t0 := hbl.c0
            have t1 := hbl.c1
            clear hwz
            clear hHeld
            refine wpAnyJ_done (by kernel_rfl) ?_ _
            have h4 : Two wvf21 wx.heap.size gT (Value.slice Av5 ((PF i9).length + 1) cv5) (Value.slice Av7 ((WF i9).length + 1) cv7) ((PF i9).length + 1) ((WF i9).length + 1) (PF (i9 + 1)) (WF (i9 + 1)) := ⟨hbl, by rw [HPy.out _ hkp, hPR.out, i64s_app]; exact hown5, by rw [HWy.out _ hkp, hWT.out, i64s_app]; exact hown7, hv5.1, hv7.1, hv7.2⟩
            have HL1 : Hid ((PF i9).length + 1 = (PF (i9 + 1)).length) := by rw [HPy.out _ hkp]; exact Lib.hid (by simp)
            have HL2 : Hid ((WF i9).length + 1 = (WF (i9 + 1)).length) := by rw [HWy.out _ hkp]; exact Lib.hid (by simp)
            clear hbl hown5 hown7 t0 t1
            (try clear hcU)
            (try clear hcA)
            (try clear hAe)
            (try clear hx0')
            (try clear j0 j1 i4)
            go_wp2
            go_roundw
            case rel => first | exact ⟨i9 + 1, hlt, by omega, ⟨_, _, by rw [← HL1.out, ← HL2.out]; exact h4⟩, hL, hkb⟩ | exact ⟨i9 + 1, _, _, hlt, by go_num, by rw [← HL1.out, ← HL2.out]; exact h4, hL, hkb⟩
            case measure => simp [intOf]; exact Nat.sub_lt_sub_left hlt (Nat.lt_succ_self _)
          exact AllReadyJ.nil
        refine AllReadyJ.cons (i := 8) (o := ?oof22) ?hof22 (fun K9 hK9 => ?hstepf22) ?moref22
        case hof22 => simp only [List.getElem?_toArray, List.getElem?_cons_zero, List.getElem?_cons_succ]; rfl
        case hstepf22 =>
          go_simp
          clear hHeld
          refine hK9.out _ _ ⟨keep_cell (Below.drew ((Below.refl wz.heap.size wz).alloc (Nat.le_refl _) _)) t0, keep_cell (Below.drew ((Below.refl wz.heap.size wz).alloc (Nat.le_refl _) _)) t1, Below.drew (keep_below_alloc hw _)⟩ (fun hHeld => ?_)
          clear hK9 K9
          (try simp only [Act.put, List.setIfInBounds_toArray, List.set_cons_zero, List.set_cons_succ])
          refine wpAnyJ_name hHeld (fun waf22 hHa hwz => ?_)
          have hbA : Below wz.heap.size wz waf22 := by rw [hwz]; exact Below.drew ((Below.refl wz.heap.size wz).alloc (Nat.le_refl _) _)
          have hn8 : NewsAt waf22 wz.heap.size (.int .i64 (nth SU i9)) := by rw [hwz]; exact World.news_of_block (cs := #[.int .i64 (nth SU i9)]) (t := 3) (fr := (0, 0)) (heap_alloc_new _ _)
          have hnv8 : (Value.slice A0 (PF i9).length c0).ownBlock ≠ some wz.heap.size ∧ (Value.slice A1 (WF i9).length c1).ownBlock ≠ some wz.heap.size := ⟨fun e => by have := (ho0.lt _ e).2; omega, fun e => by have := (ho1.lt _ e).2; omega⟩
          replace t0 := keep_cell hbA t0
          replace t1 := keep_cell hbA t1
          replace hbl := hbl.below hbA
          replace ho0 := own_below ho0 hbA
          replace ho1 := own_below ho1 hbA
          replace hkb := hkb.below hbA
          replace hL := hL.below hbA
          replace hw := keep_below hbA hw
          generalize wz.heap.size = g8 at hn8 hnv8 ⊢
          clear hHeld hbA hwz
          have hHeld := hHa
          clear hHa
          refine wpAnyJ_ready (rs := [3]) (by kernel_rfl) (by simp) ?_
          refine AllReadyJ.cons (i := 3) (o := ?oof23) ?hof23 (fun K9 hK9 => ?hstepf23) AllReadyJ.nil
          case hof23 => simp only [List.getElem?_toArray, List.getElem?_cons_zero, List.getElem?_cons_succ]; rfl
          go_simp
          clear hHeld
          refine hK9.out _ _ ⟨keep_cell ((Below.refl waf22.heap.size waf22).alloc (Nat.le_refl _) _) t0, keep_cell ((Below.refl waf22.heap.size waf22).alloc (Nat.le_refl _) _) t1, keep_below_alloc hw _⟩ (fun hHeld => ?_)
          clear hK9 K9
          (try simp only [Act.put, List.setIfInBounds_toArray, List.set_cons_zero, List.set_cons_succ])
          refine wpAnyJ_name hHeld (fun waf23 hHa hwz => ?_)
          have hbA : Below waf22.heap.size waf22 waf23 := by rw [hwz]; exact (Below.refl waf22.heap.size waf22).alloc (Nat.le_refl _) _
          have hn3 : NewsAt waf23 waf22.heap.size (.int .i64 pq) := by rw [hwz]; exact World.news_of_block (cs := #[.int .i64 pq]) (t := 3) (fr := (0, 0)) (heap_alloc_new _ _)
          have hnv3 : (Value.slice A0 (PF i9).length c0).ownBlock ≠ some waf22.heap.size ∧ (Value.slice A1 (WF i9).length c1).ownBlock ≠ some waf22.heap.size := ⟨fun e => by have := (ho0.lt _ e).2; omega, fun e => by have := (ho1.lt _ e).2; omega⟩
          replace t0 := keep_cell hbA t0
          replace t1 := keep_cell hbA t1
          replace hbl := hbl.below hbA
          replace ho0 := own_below ho0 hbA
          replace ho1 := own_below ho1 hbA
          replace hkb := hkb.below hbA
          replace hL := hL.below hbA
          replace hn8 := hn8.below hbA
          replace hw := keep_below hbA hw
          generalize waf22.heap.size = g3 at hn3 hnv3 ⊢
          clear hHeld hbA hwz
          have hHeld := hHa
          clear hHa
          refine wpAnyJ_ready (rs := [4]) (by kernel_rfl) (by simp) ?_
          refine AllReadyJ.cons (i := 4) (o := ?oof24) ?hof24 (fun K9 hK9 => ?hstepf24) AllReadyJ.nil
          case hof24 => simp only [List.getElem?_toArray, List.getElem?_cons_zero, List.getElem?_cons_succ]; rfl
          clear hHeld
          refine step_append_elder _ (by rfl) _ _ 24 (by rfl) wx.heap.size 3 i0 (.int .i64 0) 1 8 Tryz.underlying24 hi hz0 hz1 hz2 rfl (by decide) _ _ _ (by rfl) ho0 ⟨g3, 0, none⟩ 1 1 [.int .i64 pq] (by rfl) rfl hn3 (by simp [Value.oneCell']) (by unfold maxLen; omega) (by omega) hkb.size ?_
          intro v5 wpf24 hown5 hg5 hat5 _
          obtain ⟨Av5, cv5, rfl⟩ := own_slice hown5
          have hv5 := new_apartI hbl.lt hne0 ho1 hap hat5
          have hr5 : ∀ g, (Value.slice A0 (PF i9).length c0).ownBlock = some g → wx.heap.size ≤ g := fun g e => (ho0.lt g e).1
          replace t0 := grown_cell hg5 t0 hne0
          replace t1 := grown_cell hg5 t1 hne0
          replace hbl := hbl.grown hg5 hne0
          replace hL := hL.grown hg5 (own_no ho0 hLx)
          replace ho1 := own_keptv ho1 hg5 (fun g e e2 => hap g e2 e)
          replace hn8 := hn8.grown hg5 hnv8.1
          replace hw := Below.grown hw hg5 hw.size (fun g e => Nat.le_trans hwle (hr5 g e))
          replace hkb := hkb.grown hg5 hr5
          clear ho0 hn3 hr5 hg5 hat5
          refine hK9.out _ _ ⟨t0, t1, hw⟩ (fun hHeld => ?_)
          clear hK9 K9
          (try simp only [Act.put, List.setIfInBounds_toArray, List.set_cons_zero, List.set_cons_succ])
          refine wpAnyJ_pure (i := 10) (oi := ?oof25) (v := ?vvf25) ?hif25 (by kernel_rfl) (by kernel_rfl) (by kernel_rfl) (by rfl) ?hqf25 (Or.inl ⟨?hgf25, ?hyf25⟩) ?restf25
          case hif25 => simp only [List.getElem?_toArray, List.getElem?_cons_zero, List.getElem?_cons_succ]; rfl
          case hqf25 => exact fun _ _ _ h => h
          case hgf25 => rfl
          case hyf25 =>
            intro wq _
            go_simp
            (try with_reducible rfl)
          (try simp only [Act.put, List.setIfInBounds_toArray, List.set_cons_zero, List.set_cons_succ])
          refine wpAnyJ_ready (rs := [9]) (by kernel_rfl) (by simp) ?_
          refine AllReadyJ.cons (i := 9) (o := ?oof26) ?hof26 (fun K9 hK9 => ?hstepf26) AllReadyJ.nil
          case hof26 => simp only [List.getElem?_toArray, List.getElem?_cons_zero, List.getElem?_cons_succ]; rfl
          clear hHeld
          refine step_append_elder _ (by rfl) _ _ 24 (by rfl) wx.heap.size 3 i0 (.int .i64 0) 1 8 Tryz.underlying24 hi hz0 hz1 hz2 rfl (by decide) _ _ _ (by rfl) ho1 ⟨g8, 0, none⟩ 1 1 [.int .i64 (nth SU i9)] (by rfl) rfl hn8 (by simp [Value.oneCell']) (by unfold maxLen; omega) (by omega) hkb.size ?_
          intro v7 wpf26 hown7 hg7 hat7 _
          obtain ⟨Av7, cv7, rfl⟩ := own_slice hown7
          have hv7 : (Value.slice Av7 ((WF i9).length + 1) cv7).ownBlock ≠ some gT ∧ ∀ g, (Value.slice Av5 ((PF i9).length + 1) cv5).ownBlock = some g → (Value.slice Av7 ((WF i9).length + 1) cv7).ownBlock ≠ some g := by
            have h := new_apartI hbl.lt hne1 hown5 (fun g e e2 => hv5.2 g e2 e) hat7
            exact ⟨h.1, fun g e e2 => h.2 g e2 e⟩
          have hr7 : ∀ g, (Value.slice A1 (WF i9).length c1).ownBlock = some g → wx.heap.size ≤ g := fun g e => (ho1.lt g e).1
          replace t0 := grown_cell hg7 t0 hne1
          replace t1 := grown_cell hg7 t1 hne1
          replace hbl := hbl.grown hg7 hne1
          replace hL := hL.grown hg7 (own_no ho1 hLx)
          replace hown5 := own_keptv hown5 hg7 (fun g e e2 => hv5.2 g e e2)
          replace hw := Below.grown hw hg7 hw.size (fun g e => Nat.le_trans hwle (hr7 g e))
          replace hkb := hkb.grown hg7 hr7
          clear ho1 hn8 hr7 hg7 hat7
          refine hK9.out _ _ ⟨t0, t1, hw⟩ (fun hHeld => ?_)
          clear hK9 K9
          (try simp only [Act.put, List.setIfInBounds_toArray, List.set_cons_zero, List.set_cons_succ])
          refine wpAnyJ_ready (rs := [11]) (by kernel_rfl) (by simp) ?_
          refine AllReadyJ.free (i := 11) (o := ?oof27) ?hof27 (by rfl) (fun K9 hK9 => ?hstepf27) AllReadyJ.nil
          case hof27 => simp only [List.getElem?_toArray, List.getElem?_cons_zero, List.getElem?_cons_succ]; rfl
          have hff := hbl.free 0
          go_simp
          refine hK9.out _ _ trivial (fun _ => ?_)
          clear hK9 K9
          (try simp only [Act.put, List.setIfInBounds_toArray, List.set_cons_zero, List.set_cons_succ])
          refine wpAnyJ_call (fun wvf27 hwz => ?_)
          replace hbl := hbl.set0 (Value.slice Av5 ((PF i9).length + 1) cv5)
          replace hL := RowX.far (q := gT) (j := 0) (v := (Value.slice Av5 ((PF i9).length + 1) cv5)) hL hTL.symm
          replace hown5 := own_keptv hown5 (grown_set1 _ gT 0 (Value.slice Av5 ((PF i9).length + 1) cv5)) (fun g e e2 => hv5.1 (by rw [e, ← e2]))
          replace hown7 := own_keptv hown7 (grown_set1 _ gT 0 (Value.slice Av5 ((PF i9).length + 1) cv5)) (fun g e e2 => hv7.1 (by rw [e, ← e2]))
          replace hkb := hkb.set0 0 (Value.slice Av5 ((PF i9).length + 1) cv5)
          replace hw := Below.setCell' (p := ⟨gT, 0, none⟩) hwT hw (Value.slice Av5 ((PF i9).length + 1) cv5)
          rw [← hwz] at hbl hL hown5 hown7 hkb hw
          clear t0 t1 hff
          have t0 := hbl.c0
          have t1 := hbl.c1
          clear hwz
          refine wpAnyJ_pure (i := 12) (oi := ?oof28) (v := ?vvf28) ?hif28 (by kernel_rfl) (by kernel_rfl) (by kernel_rfl) (by rfl) ?hqf28 (Or.inl ⟨?hgf28, ?hyf28⟩) ?restf28
          case hif28 => simp only [List.getElem?_toArray, List.getElem?_cons_zero, List.getElem?_cons_succ]; rfl
          case hqf28 => exact fun _ _ _ h => h
          case hgf28 => rfl
          case hyf28 =>
            intro wq _
            go_simp
            (try with_reducible rfl)
          (try simp only [Act.put, List.setIfInBounds_toArray, List.set_cons_zero, List.set_cons_succ])
          refine wpAnyJ_ready (rs := [13]) (by kernel_rfl) (by simp) ?_
          refine AllReadyJ.free (i := 13) (o := ?oof29) ?hof29 (by rfl) (fun K9 hK9 => ?hstepf29) AllReadyJ.nil
          case hof29 => simp only [List.getElem?_toArray, List.getElem?_cons_zero, List.getElem?_cons_succ]; rfl
          have hff := hbl.free 1
          go_simp
          refine hK9.out _ _ trivial (fun _ => ?_)
          clear hK9 K9
          (try simp only [Act.put, List.setIfInBounds_toArray, List.set_cons_zero, List.set_cons_succ])
          refine wpAnyJ_call (fun wvf29 hwz => ?_)
          replace hbl := hbl.set1 (Value.slice Av7 ((WF i9).length + 1) cv7)
          replace hL := RowX.far (q := gT) (j := 1) (v := (Value.slice Av7 ((WF i9).length + 1) cv7)) hL hTL.symm
          replace hown5 := own_keptv hown5 (grown_set1 _ gT 1 (Value.slice Av7 ((WF i9).length + 1) cv7)) (fun g e e2 => hv5.1 (by rw [e, ← e2]))
          replace hown7 := own_keptv hown7 (grown_set1 _ gT 1 (Value.slice Av7 ((WF i9).length + 1) cv7)) (fun g e e2 => hv7.1 (by rw [e, ← e2]))
          replace hkb := hkb.set0 1 (Value.slice Av7 ((WF i9).length + 1) cv7)
          replace hw := Below.setCell' (p := ⟨gT, 1, none⟩) hwT hw (Value.slice Av7 ((WF i9).length + 1) cv7)
          rw [← hwz] at hbl hL hown5 hown7 hkb hw
          clear t0 t1 hff
          have t0 := hbl.c0
          have t1 := hbl.c1
          clear hwz
          clear hHeld
          refine wpAnyJ_done (by kernel_rfl) ?_ _
          have h4 : Two wvf29 wx.heap.size gT (Value.slice Av5 ((PF i9).length + 1) cv5) (Value.slice Av7 ((WF i9).length + 1) cv7) ((PF i9).length + 1) ((WF i9).length + 1) (PF (i9 + 1)) (WF (i9 + 1)) := ⟨hbl, by rw [HPy.out _ hkp, hPR.out, i64s_app]; exact hown5, by rw [HWy.out _ hkp, hWT.out, i64s_app]; exact hown7, hv5.1, hv7.1, hv7.2⟩
          have HL1 : Hid ((PF i9).length + 1 = (PF (i9 + 1)).length) := by rw [HPy.out _ hkp]; exact Lib.hid (by simp)
          have HL2 : Hid ((WF i9).length + 1 = (WF (i9 + 1)).length) := by rw [HWy.out _ hkp]; exact Lib.hid (by simp)
          clear hbl hown5 hown7 t0 t1
          (try clear hcU)
          (try clear hcA)
          (try clear hAe)
          (try clear hx0')
          (try clear j0 j1 i4)
          go_wp2
          go_roundw
          case rel => first | exact ⟨i9 + 1, hlt, by omega, ⟨_, _, by rw [← HL1.out, ← HL2.out]; exact h4⟩, hL, hkb⟩ | exact ⟨i9 + 1, _, _, hlt, by go_num, by rw [← HL1.out, ← HL2.out]; exact h4, hL, hkb⟩
          case measure => simp [intOf]; exact Nat.sub_lt_sub_left hlt (Nat.lt_succ_self _)
        exact AllReadyJ.nil
      have hen2 : EN i9 = false := by simpa using hen
      have hWT : Hid (WT i9 = 0) := Lib.hid (hWi.2 hdd hen2)
      rw [hen2] at hcE
      clear hWi hkd hdd hen hen2
      go_upto_region 15 with (fail)
      have hbl := h2.blk
      have ho0 := h2.own0
      have ho1 := h2.own1
      have hne0 := h2.ne0
      have hne1 := h2.ne1
      have hap := h2.ap
      have t0 := hbl.c0
      have t1 := hbl.c1
      clear h2
      refine wp_region_J (S := fun w' => w'.cell? ⟨gT, 0, none⟩ = some (.slice A0 (PF i9).length c0) ∧ w'.cell? ⟨gT, 1, none⟩ = some (.slice A1 (WF i9).length c1) ∧ Below w.heap.size w w') (fun j => j == 1 || j == 3 || j == 4 || j == 6 || j == 8 || j == 9) (by kernel_rfl) ⟨t0, t1, hw.drew⟩ (fun hHeld => ?_)
      refine wpAnyJ_pure (i := 0) (oi := ?oog1) (v := ?vvg1) ?hig1 (by kernel_rfl) (by kernel_rfl) (by kernel_rfl) (by rfl) ?hqg1 (Or.inl ⟨?hgg1, ?hyg1⟩) ?restg1
      case hig1 => simp only [List.getElem?_toArray, List.getElem?_cons_zero]; rfl
      case hqg1 => exact fun _ _ _ h => h
      case hgg1 => rfl
      case hyg1 =>
        intro wq _
        go_simp
        (try with_reducible rfl)
      (try simp only [Act.put, List.setIfInBounds_toArray, List.set_cons_zero, List.set_cons_succ])
      refine wpAnyJ_pure (i := 2) (oi := ?oog2) (v := ?vvg2) ?hig2 (by kernel_rfl) (by kernel_rfl) (by kernel_rfl) (by rfl) ?hqg2 (Or.inl ⟨?hgg2, ?hyg2⟩) ?restg2
      case hig2 => simp only [List.getElem?_toArray, List.getElem?_cons_zero, List.getElem?_cons_succ]; rfl
      case hqg2 => exact fun _ _ _ h => h
      case hgg2 => rfl
      case hyg2 =>
        intro wq _
        go_simp
        (try with_reducible rfl)
      (try simp only [Act.put, List.setIfInBounds_toArray, List.set_cons_zero, List.set_cons_succ])
      refine wpAnyJ_pure (i := 5) (oi := ?oog3) (v := ?vvg3) ?hig3 (by kernel_rfl) (by kernel_rfl) (by kernel_rfl) (by rfl) ?hqg3 (Or.inl ⟨?hgg3, ?hyg3⟩) ?restg3
      case hig3 => simp only [List.getElem?_toArray, List.getElem?_cons_zero, List.getElem?_cons_succ]; rfl
      case hqg3 => exact fun _ _ _ h => h
      case hgg3 => rfl
      case hyg3 =>
        intro wq _
        go_simp
        (try with_reducible rfl)
      (try simp only [Act.put, List.setIfInBounds_toArray, List.set_cons_zero, List.set_cons_succ])
      refine wpAnyJ_pure (i := 7) (oi := ?oog4) (v := ?vvg4) ?hig4 (by kernel_rfl) (by kernel_rfl) (by kernel_rfl) (by rfl) ?hqg4 (Or.inl ⟨?hgg4, ?hyg4⟩) ?restg4
      case hig4 => simp only [List.getElem?_toArray, List.getElem?_cons_zero, List.getElem?_cons_succ]; rfl
      case hqg4 => exact fun _ _ _ h => h
      case hgg4 => rfl
      case hyg4 =>
        intro wq _
        go_simp
        (try with_reducible rfl)
      (try simp only [Act.put, List.setIfInBounds_toArray, List.set_cons_zero, List.set_cons_succ])
      refine wpAnyJ_take (i := 1) (oi := ?oog5) (v := ?vvg5) ?hig5 (by kernel_rfl) (by kernel_rfl) (by kernel_rfl) (by kernel_rfl) ?hqg5 (Or.inl ⟨?hgg5, ?hyg5⟩) (by assumption) ?restg5
      case hig5 => simp only [List.getElem?_toArray, List.getElem?_cons_zero, List.getElem?_cons_succ]; rfl
      case hqg5 => exact fun _ _ _ h => h
      case hgg5 => rfl
      case hyg5 =>
        intro wq hSw
        obtain ⟨t0, t1, hw⟩ := hSw
        go_simp
        (try with_reducible rfl)
      (try simp only [Act.put, List.setIfInBounds_toArray, List.set_cons_zero, List.set_cons_succ])
      refine wpAnyJ_take (i := 6) (oi := ?oog6) (v := ?vvg6) ?hig6 (by kernel_rfl) (by kernel_rfl) (by kernel_rfl) (by kernel_rfl) ?hqg6 (Or.inl ⟨?hgg6, ?hyg6⟩) (by assumption) ?restg6
      case hig6 => simp only [List.getElem?_toArray, List.getElem?_cons_zero, List.getElem?_cons_succ]; rfl
      case hqg6 => exact fun _ _ _ h => h
      case hgg6 => rfl
      case hyg6 =>
        intro wq hSw
        obtain ⟨t0, t1, hw⟩ := hSw
        go_simp
        (try with_reducible rfl)
      (try simp only [Act.put, List.setIfInBounds_toArray, List.set_cons_zero, List.set_cons_succ])
      refine wpAnyJ_ready (rs := [3, 8]) (by kernel_rfl) (by simp) ?_
      refine AllReadyJ.cons (i := 3) (o := ?oog7) ?hog7 (fun K9 hK9 => ?hstepg7) ?moreg7
      case hog7 => simp only [List.getElem?_toArray, List.getElem?_cons_zero, List.getElem?_cons_succ]; rfl
      case hstepg7 =>
        go_simp
        clear hHeld
        refine hK9.out _ _ ⟨keep_cell (Below.drew ((Below.refl wz.heap.size wz).alloc (Nat.le_refl _) _)) t0, keep_cell (Below.drew ((Below.refl wz.heap.size wz).alloc (Nat.le_refl _) _)) t1, Below.drew (keep_below_alloc hw _)⟩ (fun hHeld => ?_)
        clear hK9 K9
        (try simp only [Act.put, List.setIfInBounds_toArray, List.set_cons_zero, List.set_cons_succ])
        refine wpAnyJ_name hHeld (fun wag7 hHa hwz => ?_)
        have hbA : Below wz.heap.size wz wag7 := by rw [hwz]; exact Below.drew ((Below.refl wz.heap.size wz).alloc (Nat.le_refl _) _)
        have hn3 : NewsAt wag7 wz.heap.size (.int .i64 pq) := by rw [hwz]; exact World.news_of_block (cs := #[.int .i64 pq]) (t := 3) (fr := (0, 0)) (heap_alloc_new _ _)
        have hnv3 : (Value.slice A0 (PF i9).length c0).ownBlock ≠ some wz.heap.size ∧ (Value.slice A1 (WF i9).length c1).ownBlock ≠ some wz.heap.size := ⟨fun e => by have := (ho0.lt _ e).2; omega, fun e => by have := (ho1.lt _ e).2; omega⟩
        replace t0 := keep_cell hbA t0
        replace t1 := keep_cell hbA t1
        replace hbl := hbl.below hbA
        replace ho0 := own_below ho0 hbA
        replace ho1 := own_below ho1 hbA
        replace hkb := hkb.below hbA
        replace hL := hL.below hbA
        replace hw := keep_below hbA hw
        generalize wz.heap.size = g3 at hn3 hnv3 ⊢
        clear hHeld hbA hwz
        have hHeld := hHa
        clear hHa
        refine wpAnyJ_ready (rs := [4, 8]) (by kernel_rfl) (by simp) ?_
        refine AllReadyJ.cons (i := 4) (o := ?oog8) ?hog8 (fun K9 hK9 => ?hstepg8) ?moreg8
        case hog8 => simp only [List.getElem?_toArray, List.getElem?_cons_zero, List.getElem?_cons_succ]; rfl
        case hstepg8 =>
          clear hHeld
          refine step_append_elder _ (by rfl) _ _ 24 (by rfl) wx.heap.size 3 i0 (.int .i64 0) 1 8 Tryz.underlying24 hi hz0 hz1 hz2 rfl (by decide) _ _ _ (by rfl) ho0 ⟨g3, 0, none⟩ 1 1 [.int .i64 pq] (by rfl) rfl hn3 (by simp [Value.oneCell']) (by unfold maxLen; omega) (by omega) hkb.size ?_
          intro v5 wpg8 hown5 hg5 hat5 _
          obtain ⟨Av5, cv5, rfl⟩ := own_slice hown5
          have hv5 := new_apartI hbl.lt hne0 ho1 hap hat5
          have hr5 : ∀ g, (Value.slice A0 (PF i9).length c0).ownBlock = some g → wx.heap.size ≤ g := fun g e => (ho0.lt g e).1
          replace t0 := grown_cell hg5 t0 hne0
          replace t1 := grown_cell hg5 t1 hne0
          replace hbl := hbl.grown hg5 hne0
          replace hL := hL.grown hg5 (own_no ho0 hLx)
          replace ho1 := own_keptv ho1 hg5 (fun g e e2 => hap g e2 e)
          replace hw := Below.grown hw hg5 hw.size (fun g e => Nat.le_trans hwle (hr5 g e))
          replace hkb := hkb.grown hg5 hr5
          clear ho0 hn3 hr5 hg5 hat5
          refine hK9.out _ _ ⟨t0, t1, hw⟩ (fun hHeld => ?_)
          clear hK9 K9
          (try simp only [Act.put, List.setIfInBounds_toArray, List.set_cons_zero, List.set_cons_succ])
          refine wpAnyJ_pure (i := 10) (oi := ?oog9) (v := ?vvg9) ?hig9 (by kernel_rfl) (by kernel_rfl) (by kernel_rfl) (by rfl) ?hqg9 (Or.inl ⟨?hgg9, ?hyg9⟩) ?restg9
          case hig9 => simp only [List.getElem?_toArray, List.getElem?_cons_zero, List.getElem?_cons_succ]; rfl
          case hqg9 => exact fun _ _ _ h => h
          case hgg9 => rfl
          case hyg9 =>
            intro wq _
            go_simp
            (try with_reducible rfl)
          (try simp only [Act.put, List.setIfInBounds_toArray, List.set_cons_zero, List.set_cons_succ])
          refine wpAnyJ_ready (rs := [8]) (by kernel_rfl) (by simp) ?_
          refine AllReadyJ.cons (i := 8) (o := ?oog10) ?hog10 (fun K9 hK9 => ?hstepg10) AllReadyJ.nil
          case hog10 => simp only [List.getElem?_toArray, List.getElem?_cons_zero, List.getElem?_cons_succ]; rfl
          go_simp
          clear hHeld
          refine hK9.out _ _ ⟨keep_cell ((Below.refl wpg8.heap.size wpg8).alloc (Nat.le_refl _) _) t0, keep_cell ((Below.refl wpg8.heap.size wpg8).alloc (Nat.le_refl _) _) t1, keep_below_alloc hw _⟩ (fun hHeld => ?_)
          clear hK9 K9
          (try simp only [Act.put, List.setIfInBounds_toArray, List.set_cons_zero, List.set_cons_succ])
          refine wpAnyJ_name hHeld (fun wag10 hHa hwz => ?_)
          have hbA : Below wpg8.heap.size wpg8 wag10 := by rw [hwz]; exact (Below.refl wpg8.heap.size wpg8).alloc (Nat.le_refl _) _
          have hn8 : NewsAt wag10 wpg8.heap.size (.int .i64 0) := by rw [hwz]; exact World.news_of_block (cs := #[.int .i64 0]) (t := 3) (fr := (0, 0)) (heap_alloc_new _ _)
          have hnv8 : True ∧ (Value.slice A1 (WF i9).length c1).ownBlock ≠ some wpg8.heap.size := ⟨trivial, fun e => by have := (ho1.lt _ e).2; omega⟩
          replace t0 := keep_cell hbA t0
          replace t1 := keep_cell hbA t1
          replace hbl := hbl.below hbA
          replace ho1 := own_below ho1 hbA
          replace hkb := hkb.below hbA
          replace hL := hL.below hbA
          replace hown5 := own_below hown5 hbA
          replace hw := keep_below hbA hw
          generalize wpg8.heap.size = g8 at hn8 hnv8 ⊢
          clear hHeld hbA hwz
          have hHeld := hHa
          clear hHa
          refine wpAnyJ_ready (rs := [9]) (by kernel_rfl) (by simp) ?_
          refine AllReadyJ.cons (i := 9) (o := ?oog11) ?hog11 (fun K9 hK9 => ?hstepg11) AllReadyJ.nil
          case hog11 => simp only [List.getElem?_toArray, List.getElem?_cons_zero, List.getElem?_cons_succ]; rfl
          clear hHeld
          refine step_append_elder _ (by rfl) _ _ 24 (by rfl) wx.heap.size 3 i0 (.int .i64 0) 1 8 Tryz.underlying24 hi hz0 hz1 hz2 rfl (by decide) _ _ _ (by rfl) ho1 ⟨g8, 0, none⟩ 1 1 [.int .i64 0] (by rfl) rfl hn8 (by simp [Value.oneCell']) (by unfold maxLen; omega) (by omega) hkb.size ?_
          intro v7 wpg11 hown7 hg7 hat7 _
          obtain ⟨Av7, cv7, rfl⟩ := own_slice hown7
          have hv7 : (Value.slice Av7 ((WF i9).length + 1) cv7).ownBlock ≠ some gT ∧ ∀ g, (Value.slice Av5 ((PF i9).length + 1) cv5).ownBlock = some g → (Value.slice Av7 ((WF i9).length + 1) cv7).ownBlock ≠ some g := by
            have h := new_apartI hbl.lt hne1 hown5 (fun g e e2 => hv5.2 g e2 e) hat7
            exact ⟨h.1, fun g e e2 => h.2 g e2 e⟩
          have hr7 : ∀ g, (Value.slice A1 (WF i9).length c1).ownBlock = some g → wx.heap.size ≤ g := fun g e => (ho1.lt g e).1
          replace t0 := grown_cell hg7 t0 hne1
          replace t1 := grown_cell hg7 t1 hne1
          replace hbl := hbl.grown hg7 hne1
          replace hL := hL.grown hg7 (own_no ho1 hLx)
          replace hown5 := own_keptv hown5 hg7 (fun g e e2 => hv5.2 g e e2)
          replace hw := Below.grown hw hg7 hw.size (fun g e => Nat.le_trans hwle (hr7 g e))
          replace hkb := hkb.grown hg7 hr7
          clear ho1 hn8 hr7 hg7 hat7
          refine hK9.out _ _ ⟨t0, t1, hw⟩ (fun hHeld => ?_)
          clear hK9 K9
          (try simp only [Act.put, List.setIfInBounds_toArray, List.set_cons_zero, List.set_cons_succ])
          refine wpAnyJ_ready (rs := [11]) (by kernel_rfl) (by simp) ?_
          refine AllReadyJ.free (i := 11) (o := ?oog12) ?hog12 (by rfl) (fun K9 hK9 => ?hstepg12) AllReadyJ.nil
          case hog12 => simp only [List.getElem?_toArray, List.getElem?_cons_zero, List.getElem?_cons_succ]; rfl
          have hff := hbl.free 0
          go_simp
          refine hK9.out _ _ trivial (fun _ => ?_)
          clear hK9 K9
          (try simp only [Act.put, List.setIfInBounds_toArray, List.set_cons_zero, List.set_cons_succ])
          refine wpAnyJ_call (fun wvg12 hwz => ?_)
          replace hbl := hbl.set0 (Value.slice Av5 ((PF i9).length + 1) cv5)
          replace hL := RowX.far (q := gT) (j := 0) (v := (Value.slice Av5 ((PF i9).length + 1) cv5)) hL hTL.symm
          replace hown5 := own_keptv hown5 (grown_set1 _ gT 0 (Value.slice Av5 ((PF i9).length + 1) cv5)) (fun g e e2 => hv5.1 (by rw [e, ← e2]))
          replace hown7 := own_keptv hown7 (grown_set1 _ gT 0 (Value.slice Av5 ((PF i9).length + 1) cv5)) (fun g e e2 => hv7.1 (by rw [e, ← e2]))
          replace hkb := hkb.set0 0 (Value.slice Av5 ((PF i9).length + 1) cv5)
          replace hw := Below.setCell' (p := ⟨gT, 0, none⟩) hwT hw (Value.slice Av5 ((PF i9).length + 1) cv5)
          rw [← hwz] at hbl hL hown5 hown7 hkb hw
          clear t0 t1 hff
          have t0 := hbl.c0
          have t1 := hbl.c1
          clear hwz
          refine wpAnyJ_pure (i := 12) (oi := ?oog13) (v := ?vvg13) ?hig13 (by kernel_rfl) (by kernel_rfl) (by kernel_rfl) (by rfl) ?hqg13 (Or.inl ⟨?hgg13, ?hyg13⟩) ?restg13
          case hig13 => simp only [List.getElem?_toArray, List.getElem?_cons_zero, List.getElem?_cons_succ]; rfl
          case hqg13 => exact fun _ _ _ h => h
          case hgg13 => rfl
          case hyg13 =>
            intro wq _
            go_simp
            (try with_reducible rfl)
          (try simp only [Act.put, List.setIfInBounds_toArray, List.set_cons_zero, List.set_cons_succ])
          refine wpAnyJ_ready (rs := [13]) (by kernel_rfl) (by simp) ?_
          refine AllReadyJ.free (i := 13) (o := ?oog14) ?hog14 (by rfl) (fun K9 hK9 => ?hstepg14) AllReadyJ.nil
          case hog14 => simp only [List.getElem?_toArray, List.getElem?_cons_zero, List.getElem?_cons_succ]; rfl
          have hff := hbl.free 1
          go_simp
          refine hK9.out _ _ trivial (fun _ => ?_)
          clear hK9 K9
          (try simp only [Act.put, List.setIfInBounds_toArray, List.set_cons_zero, List.set_cons_succ])
          refine wpAnyJ_call (fun wvg14 hwz => ?_)
          replace hbl := hbl.set1 (Value.slice Av7 ((WF i9).length + 1) cv7)
          replace hL := RowX.far (q := gT) (j := 1) (v := (Value.slice Av7 ((WF i9).length + 1) cv7)) hL hTL.symm
          replace hown5 := own_keptv hown5 (grown_set1 _ gT 1 (Value.slice Av7 ((WF i9).length + 1) cv7)) (fun g e e2 => hv5.1 (by rw [e, ← e2]))
          replace hown7 := own_keptv hown7 (grown_set1 _ gT 1 (Value.slice Av7 ((WF i9).length + 1) cv7)) (fun g e e2 => hv7.1 (by rw [e, ← e2]))
          replace hkb := hkb.set0 1 (Value.slice Av7 ((WF i9).length + 1) cv7)
          replace hw := Below.setCell' (p := ⟨gT, 1, none⟩) hwT hw (Value.slice Av7 ((WF i9).length + 1) cv7)
          rw [← hwz] at hbl hL hown5 hown7 hkb hw
          clear t0 t1 hff
          have t0 := hbl.c0
          have t1 := hbl.c1
          clear hwz
          clear hHeld
          refine wpAnyJ_done (by kernel_rfl) ?_ _
          have h4 : Two wvg14 wx.heap.size gT (Value.slice Av5 ((PF i9).length + 1) cv5) (Value.slice Av7 ((WF i9).length + 1) cv7) ((PF i9).length + 1) ((WF i9).length + 1) (PF (i9 + 1)) (WF (i9 + 1)) := ⟨hbl, by rw [HPy.out _ hkp, hPR.out, i64s_app]; exact hown5, by rw [HWy.out _ hkp, hWT.out, i64s_app]; exact hown7, hv5.1, hv7.1, hv7.2⟩
          have HL1 : Hid ((PF i9).length + 1 = (PF (i9 + 1)).length) := by rw [HPy.out _ hkp]; exact Lib.hid (by simp)
          have HL2 : Hid ((WF i9).length + 1 = (WF (i9 + 1)).length) := by rw [HWy.out _ hkp]; exact Lib.hid (by simp)
          clear hbl hown5 hown7 t0 t1
          (try clear hcU)
          (try clear hcA)
          (try clear hAe)
          (try clear hx0')
          (try clear j0 j1 i4)
          go_wp2
          go_roundw
          case rel => first | exact ⟨i9 + 1, hlt, by omega, ⟨_, _, by rw [← HL1.out, ← HL2.out]; exact h4⟩, hL, hkb⟩ | exact ⟨i9 + 1, _, _, hlt, by go_num, by rw [← HL1.out, ← HL2.out]; exact h4, hL, hkb⟩
          case measure => simp [intOf]; exact Nat.sub_lt_sub_left hlt (Nat.lt_succ_self _)
        refine AllReadyJ.cons (i := 8) (o := ?oog15) ?hog15 (fun K9 hK9 => ?hstepg15) ?moreg15
        case hog15 => simp only [List.getElem?_toArray, List.getElem?_cons_zero, List.getElem?_cons_succ]; rfl
        case hstepg15 =>
          go_simp
          clear hHeld
          refine hK9.out _ _ ⟨keep_cell ((Below.refl wag7.heap.size wag7).alloc (Nat.le_refl _) _) t0, keep_cell ((Below.refl wag7.heap.size wag7).alloc (Nat.le_refl _) _) t1, keep_below_alloc hw _⟩ (fun hHeld => ?_)
          clear hK9 K9
          (try simp only [Act.put, List.setIfInBounds_toArray, List.set_cons_zero, List.set_cons_succ])
          refine wpAnyJ_name hHeld (fun wag15 hHa hwz => ?_)
          have hbA : Below wag7.heap.size wag7 wag15 := by rw [hwz]; exact (Below.refl wag7.heap.size wag7).alloc (Nat.le_refl _) _
          have hn8 : NewsAt wag15 wag7.heap.size (.int .i64 0) := by rw [hwz]; exact World.news_of_block (cs := #[.int .i64 0]) (t := 3) (fr := (0, 0)) (heap_alloc_new _ _)
          have hnv8 : (Value.slice A0 (PF i9).length c0).ownBlock ≠ some wag7.heap.size ∧ (Value.slice A1 (WF i9).length c1).ownBlock ≠ some wag7.heap.size := ⟨fun e => by have := (ho0.lt _ e).2; omega, fun e => by have := (ho1.lt _ e).2; omega⟩
          replace t0 := keep_cell hbA t0
          replace t1 := keep_cell hbA t1
          replace hbl := hbl.below hbA
          replace ho0 := own_below ho0 hbA
          replace ho1 := own_below ho1 hbA
          replace hkb := hkb.below hbA
          replace hL := hL.below hbA
          replace hn3 := hn3.below hbA
          replace hw := keep_below hbA hw
          generalize wag7.heap.size = g8 at hn8 hnv8 ⊢
          clear hHeld hbA hwz
          have hHeld := hHa
          clear hHa
          refine wpAnyJ_ready (rs := [4]) (by kernel_rfl) (by simp) ?_
          refine AllReadyJ.cons (i := 4) (o := ?oog16) ?hog16 (fun K9 hK9 => ?hstepg16) AllReadyJ.nil
          case hog16 => simp only [List.getElem?_toArray, List.getElem?_cons_zero, List.getElem?_cons_succ]; rfl
          clear hHeld
          refine step_append_elder _ (by rfl) _ _ 24 (by rfl) wx.heap.size 3 i0 (.int .i64 0) 1 8 Tryz.underlying24 hi hz0 hz1 hz2 rfl (by decide) _ _ _ (by rfl) ho0 ⟨g3, 0, none⟩ 1 1 [.int .i64 pq] (by rfl) rfl hn3 (by simp [Value.oneCell']) (by unfold maxLen; omega) (by omega) hkb.size ?_
          intro v5 wpg16 hown5 hg5 hat5 _
          obtain ⟨Av5, cv5, rfl⟩ := own_slice hown5
          have hv5 := new_apartI hbl.lt hne0 ho1 hap hat5
          have hr5 : ∀ g, (Value.slice A0 (PF i9).length c0).ownBlock = some g → wx.heap.size ≤ g := fun g e => (ho0.lt g e).1
          replace t0 := grown_cell hg5 t0 hne0
          replace t1 := grown_cell hg5 t1 hne0
          replace hbl := hbl.grown hg5 hne0
          replace hL := hL.grown hg5 (own_no ho0 hLx)
          replace ho1 := own_keptv ho1 hg5 (fun g e e2 => hap g e2 e)
          replace hn8 := hn8.grown hg5 hnv8.1
          replace hw := Below.grown hw hg5 hw.size (fun g e => Nat.le_trans hwle (hr5 g e))
          replace hkb := hkb.grown hg5 hr5
          clear ho0 hn3 hr5 hg5 hat5
          refine hK9.out _ _ ⟨t0, t1, hw⟩ (fun hHeld => ?_)
          clear hK9 K9
          (try simp only [Act.put, List.setIfInBounds_toArray, List.set_cons_zero, List.set_cons_succ])
          refine wpAnyJ_pure (i := 10) (oi := ?oog17) (v := ?vvg17) ?hig17 (by kernel_rfl) (by kernel_rfl) (by kernel_rfl) (by rfl) ?hqg17 (Or.inl ⟨?hgg17, ?hyg17⟩) ?restg17
          case hig17 => simp only [List.getElem?_toArray, List.getElem?_cons_zero, List.getElem?_cons_succ]; rfl
          case hqg17 => exact fun _ _ _ h => h
          case hgg17 => rfl
          case hyg17 =>
            intro wq _
            go_simp
            (try with_reducible rfl)
          (try simp only [Act.put, List.setIfInBounds_toArray, List.set_cons_zero, List.set_cons_succ])
          refine wpAnyJ_ready (rs := [9]) (by kernel_rfl) (by simp) ?_
          refine AllReadyJ.cons (i := 9) (o := ?oog18) ?hog18 (fun K9 hK9 => ?hstepg18) AllReadyJ.nil
          case hog18 => simp only [List.getElem?_toArray, List.getElem?_cons_zero, List.getElem?_cons_succ]; rfl
          clear hHeld
          refine step_append_elder _ (by rfl) _ _ 24 (by rfl) wx.heap.size 3 i0 (.int .i64 0) 1 8 Tryz.underlying24 hi hz0 hz1 hz2 rfl (by decide) _ _ _ (by rfl) ho1 ⟨g8, 0, none⟩ 1 1 [.int .i64 0] (by rfl) rfl hn8 (by simp [Value.oneCell']) (by unfold maxLen; omega) (by omega) hkb.size ?_
          intro v7 wpg18 hown7 hg7 hat7 _
          obtain ⟨Av7, cv7, rfl⟩ := own_slice hown7
          have hv7 : (Value.slice Av7 ((WF i9).length + 1) cv7).ownBlock ≠ some gT ∧ ∀ g, (Value.slice Av5 ((PF i9).length + 1) cv5).ownBlock = some g → (Value.slice Av7 ((WF i9).length + 1) cv7).ownBlock ≠ some g := by
            have h := new_apartI hbl.lt hne1 hown5 (fun g e e2 => hv5.2 g e2 e) hat7
            exact ⟨h.1, fun g e e2 => h.2 g e2 e⟩
          have hr7 : ∀ g, (Value.slice A1 (WF i9).length c1).ownBlock = some g → wx.heap.size ≤ g := fun g e => (ho1.lt g e).1
          replace t0 := grown_cell hg7 t0 hne1
          replace t1 := grown_cell hg7 t1 hne1
          replace hbl := hbl.grown hg7 hne1
          replace hL := hL.grown hg7 (own_no ho1 hLx)
          replace hown5 := own_keptv hown5 hg7 (fun g e e2 => hv5.2 g e e2)
          replace hw := Below.grown hw hg7 hw.size (fun g e => Nat.le_trans hwle (hr7 g e))
          replace hkb := hkb.grown hg7 hr7
          clear ho1 hn8 hr7 hg7 hat7
          refine hK9.out _ _ ⟨t0, t1, hw⟩ (fun hHeld => ?_)
          clear hK9 K9
          (try simp only [Act.put, List.setIfInBounds_toArray, List.set_cons_zero, List.set_cons_succ])
          refine wpAnyJ_ready (rs := [11]) (by kernel_rfl) (by simp) ?_
          refine AllReadyJ.free (i := 11) (o := ?oog19) ?hog19 (by rfl) (fun K9 hK9 => ?hstepg19) AllReadyJ.nil
          case hog19 => simp only [List.getElem?_toArray, List.getElem?_cons_zero, List.getElem?_cons_succ]; rfl
          have hff := hbl.free 0
          go_simp
          refine hK9.out _ _ trivial (fun _ => ?_)
          clear hK9 K9
          (try simp only [Act.put, List.setIfInBounds_toArray, List.set_cons_zero, List.set_cons_succ])
          refine wpAnyJ_call (fun wvg19 hwz => ?_)
          replace hbl := hbl.set0 (Value.slice Av5 ((PF i9).length + 1) cv5)
          replace hL := RowX.far (q := gT) (j := 0) (v := (Value.slice Av5 ((PF i9).length + 1) cv5)) hL hTL.symm
          replace hown5 := own_keptv hown5 (grown_set1 _ gT 0 (Value.slice Av5 ((PF i9).length + 1) cv5)) (fun g e e2 => hv5.1 (by rw [e, ← e2]))
          replace hown7 := own_keptv hown7 (grown_set1 _ gT 0 (Value.slice Av5 ((PF i9).length + 1) cv5)) (fun g e e2 => hv7.1 (by rw [e, ← e2]))
          replace hkb := hkb.set0 0 (Value.slice Av5 ((PF i9).length + 1) cv5)
          replace hw := Below.setCell' (p := ⟨gT, 0, none⟩) hwT hw (Value.slice Av5 ((PF i9).length + 1) cv5)
          rw [← hwz] at hbl hL hown5 hown7 hkb hw
          clear t0 t1 hff
          have t0 := hbl.c0
          have t1 := hbl.c1
          clear hwz
          refine wpAnyJ_pure (i := 12) (oi := ?oog20) (v := ?vvg20) ?hig20 (by kernel_rfl) (by kernel_rfl) (by kernel_rfl) (by rfl) ?hqg20 (Or.inl ⟨?hgg20, ?hyg20⟩) ?restg20
          case hig20 => simp only [List.getElem?_toArray, List.getElem?_cons_zero, List.getElem?_cons_succ]; rfl
          case hqg20 => exact fun _ _ _ h => h
          case hgg20 => rfl
          case hyg20 =>
            intro wq _
            go_simp
            (try with_reducible rfl)
          (try simp only [Act.put, List.setIfInBounds_toArray, List.set_cons_zero, List.set_cons_succ])
          refine wpAnyJ_ready (rs := [13]) (by kernel_rfl) (by simp) ?_
          refine AllReadyJ.free (i := 13) (o := ?oog21) ?hog21 (by rfl) (fun K9 hK9 => ?hstepg21) AllReadyJ.nil
          case hog21 => simp only [List.getElem?_toArray, List.getElem?_cons_zero, List.getElem?_cons_succ]; rfl
          have hff := hbl.free 1
          go_simp
          refine hK9.out _ _ trivial (fun _ => ?_)
          clear hK9 K9
          (try simp only [Act.put, List.setIfInBounds_toArray, List.set_cons_zero, List.set_cons_succ])
          refine wpAnyJ_call (fun wvg21 hwz => ?_)
          replace hbl := hbl.set1 (Value.slice Av7 ((WF i9).length + 1) cv7)
          replace hL := RowX.far (q := gT) (j := 1) (v := (Value.slice Av7 ((WF i9).length + 1) cv7)) hL hTL.symm
          replace hown5 := own_keptv hown5 (grown_set1 _ gT 1 (Value.slice Av7 ((WF i9).length + 1) cv7)) (fun g e e2 => hv5.1 (by rw [e, ← e2]))
          replace hown7 := own_keptv hown7 (grown_set1 _ gT 1 (Value.slice Av7 ((WF i9).length + 1) cv7)) (fun g e e2 => hv7.1 (by rw [e, ← e2]))
          replace hkb := hkb.set0 1 (Value.slice Av7 ((WF i9).length + 1) cv7)
          replace hw := Below.setCell' (p := ⟨gT, 1, none⟩) hwT hw (Value.slice Av7 ((WF i9).length + 1) cv7)
          rw [← hwz] at hbl hL hown5 hown7 hkb hw
          clear t0 t1 hff
          have t0 := hbl.c0
          have t1 := hbl.c1
          clear hwz
          clear hHeld
          refine wpAnyJ_done (by kernel_rfl) ?_ _
          have h4 : Two wvg21 wx.heap.size gT (Value.slice Av5 ((PF i9).length + 1) cv5) (Value.slice Av7 ((WF i9).length + 1) cv7) ((PF i9).length + 1) ((WF i9).length + 1) (PF (i9 + 1)) (WF (i9 + 1)) := ⟨hbl, by rw [HPy.out _ hkp, hPR.out, i64s_app]; exact hown5, by rw [HWy.out _ hkp, hWT.out, i64s_app]; exact hown7, hv5.1, hv7.1, hv7.2⟩
          have HL1 : Hid ((PF i9).length + 1 = (PF (i9 + 1)).length) := by rw [HPy.out _ hkp]; exact Lib.hid (by simp)
          have HL2 : Hid ((WF i9).length + 1 = (WF (i9 + 1)).length) := by rw [HWy.out _ hkp]; exact Lib.hid (by simp)
          clear hbl hown5 hown7 t0 t1
          (try clear hcU)
          (try clear hcA)
          (try clear hAe)
          (try clear hx0')
          (try clear j0 j1 i4)
          go_wp2
          go_roundw
          case rel => first | exact ⟨i9 + 1, hlt, by omega, ⟨_, _, by rw [← HL1.out, ← HL2.out]; exact h4⟩, hL, hkb⟩ | exact ⟨i9 + 1, _, _, hlt, by go_num, by rw [← HL1.out, ← HL2.out]; exact h4, hL, hkb⟩
          case measure => simp [intOf]; exact Nat.sub_lt_sub_left hlt (Nat.lt_succ_self _)
        exact AllReadyJ.nil
      refine AllReadyJ.cons (i := 8) (o := ?oog22) ?hog22 (fun K9 hK9 => ?hstepg22) ?moreg22
      case hog22 => simp only [List.getElem?_toArray, List.getElem?_cons_zero, List.getElem?_cons_succ]; rfl
      case hstepg22 =>
        go_simp
        clear hHeld
        refine hK9.out _ _ ⟨keep_cell (Below.drew ((Below.refl wz.heap.size wz).alloc (Nat.le_refl _) _)) t0, keep_cell (Below.drew ((Below.refl wz.heap.size wz).alloc (Nat.le_refl _) _)) t1, Below.drew (keep_below_alloc hw _)⟩ (fun hHeld => ?_)
        clear hK9 K9
        (try simp only [Act.put, List.setIfInBounds_toArray, List.set_cons_zero, List.set_cons_succ])
        refine wpAnyJ_name hHeld (fun wag22 hHa hwz => ?_)
        have hbA : Below wz.heap.size wz wag22 := by rw [hwz]; exact Below.drew ((Below.refl wz.heap.size wz).alloc (Nat.le_refl _) _)
        have hn8 : NewsAt wag22 wz.heap.size (.int .i64 0) := by rw [hwz]; exact World.news_of_block (cs := #[.int .i64 0]) (t := 3) (fr := (0, 0)) (heap_alloc_new _ _)
        have hnv8 : (Value.slice A0 (PF i9).length c0).ownBlock ≠ some wz.heap.size ∧ (Value.slice A1 (WF i9).length c1).ownBlock ≠ some wz.heap.size := ⟨fun e => by have := (ho0.lt _ e).2; omega, fun e => by have := (ho1.lt _ e).2; omega⟩
        replace t0 := keep_cell hbA t0
        replace t1 := keep_cell hbA t1
        replace hbl := hbl.below hbA
        replace ho0 := own_below ho0 hbA
        replace ho1 := own_below ho1 hbA
        replace hkb := hkb.below hbA
        replace hL := hL.below hbA
        replace hw := keep_below hbA hw
        generalize wz.heap.size = g8 at hn8 hnv8 ⊢
        clear hHeld hbA hwz
        have hHeld := hHa
        clear hHa
        refine wpAnyJ_ready (rs := [3]) (by kernel_rfl) (by simp) ?_
        refine AllReadyJ.cons (i := 3) (o := ?oog23) ?hog23 (fun K9 hK9 => ?hstepg23) AllReadyJ.nil
        case hog23 => simp only [List.getElem?_toArray, List.getElem?_cons_zero, List.getElem?_cons_succ]; rfl
        go_simp
        clear hHeld
        refine hK9.out _ _ ⟨keep_cell ((Below.refl wag22.heap.size wag22).alloc (Nat.le_refl _) _) t0, keep_cell ((Below.refl wag22.heap.size wag22).alloc (Nat.le_refl _) _) t1, keep_below_alloc hw _⟩ (fun hHeld => ?_)
        clear hK9 K9
        (try simp only [Act.put, List.setIfInBounds_toArray, List.set_cons_zero, List.set_cons_succ])
        refine wpAnyJ_name hHeld (fun wag23 hHa hwz => ?_)
        have hbA : Below wag22.heap.size wag22 wag23 := by rw [hwz]; exact (Below.refl wag22.heap.size wag22).alloc (Nat.le_refl _) _
        have hn3 : NewsAt wag23 wag22.heap.size (.int .i64 pq) := by rw [hwz]; exact World.news_of_block (cs := #[.int .i64 pq]) (t := 3) (fr := (0, 0)) (heap_alloc_new _ _)
        have hnv3 : (Value.slice A0 (PF i9).length c0).ownBlock ≠ some wag22.heap.size ∧ (Value.slice A1 (WF i9).length c1).ownBlock ≠ some wag22.heap.size := ⟨fun e => by have := (ho0.lt _ e).2; omega, fun e => by have := (ho1.lt _ e).2; omega⟩
        replace t0 := keep_cell hbA t0
        replace t1 := keep_cell hbA t1
        replace hbl := hbl.below hbA
        replace ho0 := own_below ho0 hbA
        replace ho1 := own_below ho1 hbA
        replace hkb := hkb.below hbA
        replace hL := hL.below hbA
        replace hn8 := hn8.below hbA
        replace hw := keep_below hbA hw
        generalize wag22.heap.size = g3 at hn3 hnv3 ⊢
        clear hHeld hbA hwz
        have hHeld := hHa
        clear hHa
        refine wpAnyJ_ready (rs := [4]) (by kernel_rfl) (by simp) ?_
        refine AllReadyJ.cons (i := 4) (o := ?oog24) ?hog24 (fun K9 hK9 => ?hstepg24) AllReadyJ.nil
        case hog24 => simp only [List.getElem?_toArray, List.getElem?_cons_zero, List.getElem?_cons_succ]; rfl
        clear hHeld
        refine step_append_elder _ (by rfl) _ _ 24 (by rfl) wx.heap.size 3 i0 (.int .i64 0) 1 8 Tryz.underlying24 hi hz0 hz1 hz2 rfl (by decide) _ _ _ (by rfl) ho0 ⟨g3, 0, none⟩ 1 1 [.int .i64 pq] (by rfl) rfl hn3 (by simp [Value.oneCell']) (by unfold maxLen; omega) (by omega) hkb.size ?_
        intro v5 wpg24 hown5 hg5 hat5 _
        obtain ⟨Av5, cv5, rfl⟩ := own_slice hown5
        have hv5 := new_apartI hbl.lt hne0 ho1 hap hat5
        have hr5 : ∀ g, (Value.slice A0 (PF i9).length c0).ownBlock = some g → wx.heap.size ≤ g := fun g e => (ho0.lt g e).1
        replace t0 := grown_cell hg5 t0 hne0
        replace t1 := grown_cell hg5 t1 hne0
        replace hbl := hbl.grown hg5 hne0
        replace hL := hL.grown hg5 (own_no ho0 hLx)
        replace ho1 := own_keptv ho1 hg5 (fun g e e2 => hap g e2 e)
        replace hn8 := hn8.grown hg5 hnv8.1
        replace hw := Below.grown hw hg5 hw.size (fun g e => Nat.le_trans hwle (hr5 g e))
        replace hkb := hkb.grown hg5 hr5
        clear ho0 hn3 hr5 hg5 hat5
        refine hK9.out _ _ ⟨t0, t1, hw⟩ (fun hHeld => ?_)
        clear hK9 K9
        (try simp only [Act.put, List.setIfInBounds_toArray, List.set_cons_zero, List.set_cons_succ])
        refine wpAnyJ_pure (i := 10) (oi := ?oog25) (v := ?vvg25) ?hig25 (by kernel_rfl) (by kernel_rfl) (by kernel_rfl) (by rfl) ?hqg25 (Or.inl ⟨?hgg25, ?hyg25⟩) ?restg25
        case hig25 => simp only [List.getElem?_toArray, List.getElem?_cons_zero, List.getElem?_cons_succ]; rfl
        case hqg25 => exact fun _ _ _ h => h
        case hgg25 => rfl
        case hyg25 =>
          intro wq _
          go_simp
          (try with_reducible rfl)
        (try simp only [Act.put, List.setIfInBounds_toArray, List.set_cons_zero, List.set_cons_succ])
        refine wpAnyJ_ready (rs := [9]) (by kernel_rfl) (by simp) ?_
        refine AllReadyJ.cons (i := 9) (o := ?oog26) ?hog26 (fun K9 hK9 => ?hstepg26) AllReadyJ.nil
        case hog26 => simp only [List.getElem?_toArray, List.getElem?_cons_zero, List.getElem?_cons_succ]; rfl
        clear hHeld
        refine step_append_elder _ (by rfl) _ _ 24 (by rfl) wx.heap.size 3 i0 (.int .i64 0) 1 8 Tryz.underlying24 hi hz0 hz1 hz2 rfl (by decide) _ _ _ (by rfl) ho1 ⟨g8, 0, none⟩ 1 1 [.int .i64 0] (by rfl) rfl hn8 (by simp [Value.oneCell']) (by unfold maxLen; omega) (by omega) hkb.size ?_
        intro v7 wpg26 hown7 hg7 hat7 _
        obtain ⟨Av7, cv7, rfl⟩ := own_slice hown7
        have hv7 : (Value.slice Av7 ((WF i9).length + 1) cv7).ownBlock ≠ some gT ∧ ∀ g, (Value.slice Av5 ((PF i9).length + 1) cv5).ownBlock = some g → (Value.slice Av7 ((WF i9).length + 1) cv7).ownBlock ≠ some g := by
          have h := new_apartI hbl.lt hne1 hown5 (fun g e e2 => hv5.2 g e2 e) hat7
          exact ⟨h.1, fun g e e2 => h.2 g e2 e⟩
        have hr7 : ∀ g, (Value.slice A1 (WF i9).length c1).ownBlock = some g → wx.heap.size ≤ g := fun g e => (ho1.lt g e).1
        replace t0 := grown_cell hg7 t0 hne1
        replace t1 := grown_cell hg7 t1 hne1
        replace hbl := hbl.grown hg7 hne1
        replace hL := hL.grown hg7 (own_no ho1 hLx)
        replace hown5 := own_keptv hown5 hg7 (fun g e e2 => hv5.2 g e e2)
        replace hw := Below.grown hw hg7 hw.size (fun g e => Nat.le_trans hwle (hr7 g e))
        replace hkb := hkb.grown hg7 hr7
        clear ho1 hn8 hr7 hg7 hat7
        refine hK9.out _ _ ⟨t0, t1, hw⟩ (fun hHeld => ?_)
        clear hK9 K9
        (try simp only [Act.put, List.setIfInBounds_toArray, List.set_cons_zero, List.set_cons_succ])
        refine wpAnyJ_ready (rs := [11]) (by kernel_rfl) (by simp) ?_
        refine AllReadyJ.free (i := 11) (o := ?oog27) ?hog27 (by rfl) (fun K9 hK9 => ?hstepg27) AllReadyJ.nil
        case hog27 => simp only [List.getElem?_toArray, List.getElem?_cons_zero, List.getElem?_cons_succ]; rfl
        have hff := hbl.free 0
        go_simp
        refine hK9.out _ _ trivial (fun _ => ?_)
        clear hK9 K9
        (try simp only [Act.put, List.setIfInBounds_toArray, List.set_cons_zero, List.set_cons_succ])
        refine wpAnyJ_call (fun wvg27 hwz => ?_)
        replace hbl := hbl.set0 (Value.slice Av5 ((PF i9).length + 1) cv5)
        replace hL := RowX.far (q := gT) (j := 0) (v := (Value.slice Av5 ((PF i9).length + 1) cv5)) hL hTL.symm
        replace hown5 := own_keptv hown5 (grown_set1 _ gT 0 (Value.slice Av5 ((PF i9).length + 1) cv5)) (fun g e e2 => hv5.1 (by rw [e, ← e2]))
        replace hown7 := own_keptv hown7 (grown_set1 _ gT 0 (Value.slice Av5 ((PF i9).length + 1) cv5)) (fun g e e2 => hv7.1 (by rw [e, ← e2]))
        replace hkb := hkb.set0 0 (Value.slice Av5 ((PF i9).length + 1) cv5)
        replace hw := Below.setCell' (p := ⟨gT, 0, none⟩) hwT hw (Value.slice Av5 ((PF i9).length + 1) cv5)
        rw [← hwz] at hbl hL hown5 hown7 hkb hw
        clear t0 t1 hff
        have t0 := hbl.c0
        have t1 := hbl.c1
        clear hwz
        refine wpAnyJ_pure (i := 12) (oi := ?oog28) (v := ?vvg28) ?hig28 (by kernel_rfl) (by kernel_rfl) (by kernel_rfl) (by rfl) ?hqg28 (Or.inl ⟨?hgg28, ?hyg28⟩) ?restg28
        case hig28 => simp only [List.getElem?_toArray, List.getElem?_cons_zero, List.getElem?_cons_succ]; rfl
        case hqg28 => exact fun _ _ _ h => h
        case hgg28 => rfl
        case hyg28 =>
          intro wq _
          go_simp
          (try with_reducible rfl)
        (try simp only [Act.put, List.setIfInBounds_toArray, List.set_cons_zero, List.set_cons_succ])
        refine wpAnyJ_ready (rs := [13]) (by kernel_rfl) (by simp) ?_
        refine AllReadyJ.free (i := 13) (o := ?oog29) ?hog29 (by rfl) (fun K9 hK9 => ?hstepg29) AllReadyJ.nil
        case hog29 => simp only [List.getElem?_toArray, List.getElem?_cons_zero, List.getElem?_cons_succ]; rfl
        have hff := hbl.free 1
        go_simp
        refine hK9.out _ _ trivial (fun _ => ?_)
        clear hK9 K9
        (try simp only [Act.put, List.setIfInBounds_toArray, List.set_cons_zero, List.set_cons_succ])
        refine wpAnyJ_call (fun wvg29 hwz => ?_)
        replace hbl := hbl.set1 (Value.slice Av7 ((WF i9).length + 1) cv7)
        replace hL := RowX.far (q := gT) (j := 1) (v := (Value.slice Av7 ((WF i9).length + 1) cv7)) hL hTL.symm
        replace hown5 := own_keptv hown5 (grown_set1 _ gT 1 (Value.slice Av7 ((WF i9).length + 1) cv7)) (fun g e e2 => hv5.1 (by rw [e, ← e2]))
        replace hown7 := own_keptv hown7 (grown_set1 _ gT 1 (Value.slice Av7 ((WF i9).length + 1) cv7)) (fun g e e2 => hv7.1 (by rw [e, ← e2]))
        replace hkb := hkb.set0 1 (Value.slice Av7 ((WF i9).length + 1) cv7)
        replace hw := Below.setCell' (p := ⟨gT, 1, none⟩) hwT hw (Value.slice Av7 ((WF i9).length + 1) cv7)
        rw [← hwz] at hbl hL hown5 hown7 hkb hw
        clear t0 t1 hff
        have t0 := hbl.c0
        have t1 := hbl.c1
        clear hwz
        clear hHeld
        refine wpAnyJ_done (by kernel_rfl) ?_ _
        have h4 : Two wvg29 wx.heap.size gT (Value.slice Av5 ((PF i9).length + 1) cv5) (Value.slice Av7 ((WF i9).length + 1) cv7) ((PF i9).length + 1) ((WF i9).length + 1) (PF (i9 + 1)) (WF (i9 + 1)) := ⟨hbl, by rw [HPy.out _ hkp, hPR.out, i64s_app]; exact hown5, by rw [HWy.out _ hkp, hWT.out, i64s_app]; exact hown7, hv5.1, hv7.1, hv7.2⟩
        have HL1 : Hid ((PF i9).length + 1 = (PF (i9 + 1)).length) := by rw [HPy.out _ hkp]; exact Lib.hid (by simp)
        have HL2 : Hid ((WF i9).length + 1 = (WF (i9 + 1)).length) := by rw [HWy.out _ hkp]; exact Lib.hid (by simp)
        clear hbl hown5 hown7 t0 t1
        (try clear hcU)
        (try clear hcA)
        (try clear hAe)
        (try clear hx0')
        (try clear j0 j1 i4)
        go_wp2
        go_roundw
        case rel => first | exact ⟨i9 + 1, hlt, by omega, ⟨_, _, by rw [← HL1.out, ← HL2.out]; exact h4⟩, hL, hkb⟩ | exact ⟨i9 + 1, _, _, hlt, by go_num, by rw [← HL1.out, ← HL2.out]; exact h4, hL, hkb⟩
        case measure => simp [intOf]; exact Nat.sub_lt_sub_left hlt (Nat.lt_succ_self _)
      exact AllReadyJ.nil
end Go.Proofs.YtgccidkkfalaeaaGreatDoor
