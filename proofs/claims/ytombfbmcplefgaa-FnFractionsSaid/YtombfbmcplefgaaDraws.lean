/- Contracts: the reference's draws of arguments for the laws of fractions. -/
import Derived.Test.YtombfbmcplefgaaDrawF
import Derived.StillTailTactics
import Derived.Deep.DeepCutAuto
namespace Go.Proofs.Ytombfbmcplefgaa
open Go.ChangeShapes Go.WideShapes Go.ChangeAt Go.RowKit

theorem byt_lt {w : World} {C : Option Addr} {n b o : Nat} (h : Byt w C n) (hn : 0 < n) (e : C = some ⟨b, o, none⟩) : b < w.heap.size := by
  obtain ⟨b', o', v, e2, hc, _⟩ := h 0 hn
  rw [e] at e2; injection e2 with e2; injection e2 with e2 e3
  have := World.block_lt_of_cell? _ _ hc
  simp at this; omega
theorem cur_new (W : World) (C : Option Addr) (n cc : Nat) : CurB (W.alloc (.cells #[.slice C n cc, .int .i64 0, .int .u64 0] 98)) W.heap.size C n cc 0 :=
  ⟨0, 0, heap_alloc_new W _, Nat.le_refl _, by omega, by omega⟩
theorem pair_put {W : World} {g : Nat} {a b : Value} (u v : Value) (h0 : W.cell? ⟨g, 0, none⟩ = some a) (h1 : W.cell? ⟨g, 1, none⟩ = some b) :
    ((W.setCell ⟨g, 0, none⟩ u).setCell ⟨g, 1, none⟩ v).cell? ⟨g, 0, none⟩ = some u ∧ ((W.setCell ⟨g, 0, none⟩ u).setCell ⟨g, 1, none⟩ v).cell? ⟨g, 1, none⟩ = some v := by
  have e1 : (W.setCell ⟨g, 0, none⟩ u).cell? ⟨g, 1, none⟩ = some b := (World.cell?_setCell_other _ _ _ _ (by simp)).trans h1
  have e0 : (W.setCell ⟨g, 0, none⟩ u).cell? ⟨g, 0, none⟩ = some u := World.cell?_setCell_same _ _ _ h0
  exact ⟨(World.cell?_setCell_other _ _ _ _ (by simp)).trans e0, World.cell?_setCell_same _ _ _ e1⟩
/-- Block q is exactly a pair. -/
def PairB (W : World) (q : Nat) (a b : Int) : Prop := W.heap[q]? = some (.cells #[.int .i64 a, .int .i64 b] 51 (0, 0))
section
variable {W W' : World} {q g : Nat} {a b : Int}
theorem PairB.lt (h : PairB W q a b) : q < W.heap.size := by
  unfold PairB at h
  rcases Nat.lt_or_ge q W.heap.size with hlt | hge
  · exact hlt
  · rw [Array.getElem?_eq_none hge] at h; cases h
theorem PairB.kept (h : PairB W q a b) (hk : KeptBut W W' g g) (hq : q ≠ g) : PairB W' q a b := (hk.block q h.lt hq hq).trans h
theorem PairB.below (h : PairB W q a b) (hb : Below W.heap.size W W') : PairB W' q a b := (hb.block q h.lt).trans h
theorem PairB.c0 (h : PairB W q a b) : W.cell? ⟨q, 0, none⟩ = some (.int .i64 a) := by rw [cell_of_row _ _ _ _ _ _ h]; rfl
theorem PairB.c1 (h : PairB W q a b) : W.cell? ⟨q, 1, none⟩ = some (.int .i64 b) := by rw [cell_of_row _ _ _ _ _ _ h]; rfl
theorem PairB.free (h : PairB W q a b) (j : Nat) : W.frozen? ⟨q, j, none⟩ = false := frozen_of_row _ _ _ _ _ h
theorem PairB.far (h : PairB W q a b) {p : Nat} (hp : q ≠ p) (k : Nat) (v : Value) : PairB (W.setCell ⟨p, k, none⟩ v) q a b := (Below.heap_setCell _ _ _ _ hp).trans h
theorem PairB.put (h : PairB W q a b) (x y : Int) : PairB ((W.setCell ⟨q, 0, none⟩ (.int .i64 x)).setCell ⟨q, 1, none⟩ (.int .i64 y)) q x y := by
  have e1 := set_block h 0 (.int .i64 x)
  have e2 := set_block e1 1 (.int .i64 y)
  exact e2
end
set_option maxHeartbeats 1000000 in
set_option maxRecDepth 100000 in
theorem drawIsFraction_any (C : Option Addr) (n cc : Nat) (w : World) (hB : Byt w C n) (hn : n ≤ 1000000) :
    Calls Try.prog 46 #[.slice C n cc] w fun e w' => ∃ a b : Int, e = .returned (.agg #[.int .i64 a, .int .i64 b]) ∧ Below w.heap.size w w' := by
  have hne : ∀ b o, 0 < n → C = some ⟨b, o, none⟩ → b ≠ w.heap.size + 1 := fun b o h0 e => by have := byt_lt hB h0 e; omega
  have HF := Lib.hid (fun W (h : CurB W (w.heap.size + 1) C n cc 0) (hb : Byt W C n) => fraction_draw W h hb hne (by omega) hn)
  have hc := cur_new (w.alloc (.cells #[.int .i64 0, .int .i64 0] 51)) C n cc
  have hs : (w.alloc (.cells #[.int .i64 0, .int .i64 0] 51)).heap.size = w.heap.size + 1 := by simp
  rw [hs] at hc
  have hw : Below w.heap.size w ((w.alloc (.cells #[.int .i64 0, .int .i64 0] 51)).alloc (.cells #[.slice C n cc, .int .i64 0, .int .u64 0] 98)) := by (repeat (first | with_reducible exact Below.refl _ _ | with_reducible assumption | with_reducible refine Below.alloc' ?_ ?_ _ | with_reducible refine Below.setCell' ?_ ?_ _ | with_reducible refine Below.drewN' ?_ _ | with_reducible refine Below.drew ?_ | with_reducible refine Below.transA ?_ (by assumption) ?_ | omega | (focus (simp; done)) | (focus (simp; omega))))
  have hP : PairB ((w.alloc (.cells #[.int .i64 0, .int .i64 0] 51)).alloc (.cells #[.slice C n cc, .int .i64 0, .int .u64 0] 98)) w.heap.size 0 0 := PairB.below (heap_alloc_new w _) ((Below.refl _ _).alloc (Nat.le_refl _) _)
  have hB2 := hB.below hw
  clear hne hs hB hn
  go_enter Try.func46, Try.ntmps46
  go_wp2_with fail
  refine (HF.out _ hc hB2).mono ?_
  rintro e1 w1 ⟨a, b, rfl, _, hk⟩
  have hP1 := hP.kept hk (by omega)
  have hw1 := hk.below hw (by omega) (by omega)
  have hc0 := hP1.c0
  have hc1 := hP1.c1
  have hf0 := hP1.free 0
  have hf1 := hP1.free 1
  clear hP hk hc hB2 hw
  go_wp2
  refine bodyPost_ret (v := .agg #[.int .i64 a, .int .i64 b]) (by simp (maxDischargeDepth := 9) [results, Try.results46, go_sem, *]) rfl ⟨_, _, rfl, ?_⟩
  (repeat (first | with_reducible exact Below.refl _ _ | with_reducible assumption | with_reducible refine Below.alloc' ?_ ?_ _ | with_reducible refine Below.setCell' ?_ ?_ _ | with_reducible refine Below.drewN' ?_ _ | with_reducible refine Below.drew ?_ | with_reducible refine Below.transA ?_ (by assumption) ?_ | omega | (focus (simp; done)) | (focus (simp; omega))))
set_option maxHeartbeats 2000000 in
set_option maxRecDepth 100000 in
theorem drawAdd_any (C : Option Addr) (n cc : Nat) (w : World) (hB : Byt w C n) (hn : n ≤ 1000000) :
    Calls Try.prog 34 #[.slice C n cc] w fun e w' => ∃ a b c d : Int, e = .returned (.tuple #[.agg #[.int .i64 a, .int .i64 b], .agg #[.int .i64 c, .int .i64 d]]) ∧ Below w.heap.size w w' := by
  have hne : ∀ b o, 0 < n → C = some ⟨b, o, none⟩ → b ≠ w.heap.size + 1 + 1 := fun b o h0 e => by have := byt_lt hB h0 e; omega
  have HF := Lib.hid (fun W m (h : CurB W (w.heap.size + 1 + 1) C n cc m) (hb : Byt W C n) (hm : m ≤ 100) => fraction_draw W h hb hne (by omega) hn)
  have HK := Lib.hid (fun W W' (hb : Byt W C n) (hk : KeptBut W W' (w.heap.size + 1 + 1) (w.heap.size + 1 + 1)) => hb.kept hk hne)
  have hc := cur_new ((w.alloc (.cells #[.int .i64 0, .int .i64 0] 51)).alloc (.cells #[.int .i64 0, .int .i64 0] 51)) C n cc
  have hs : ((w.alloc (.cells #[.int .i64 0, .int .i64 0] 51)).alloc (.cells #[.int .i64 0, .int .i64 0] 51)).heap.size = w.heap.size + 1 + 1 := by simp
  have hs1 : (w.alloc (.cells #[.int .i64 0, .int .i64 0] 51)).heap.size = w.heap.size + 1 := by simp
  rw [hs] at hc
  have hw : Below w.heap.size w (((w.alloc (.cells #[.int .i64 0, .int .i64 0] 51)).alloc (.cells #[.int .i64 0, .int .i64 0] 51)).alloc (.cells #[.slice C n cc, .int .i64 0, .int .u64 0] 98)) := by (repeat (first | with_reducible exact Below.refl _ _ | with_reducible assumption | with_reducible refine Below.alloc' ?_ ?_ _ | with_reducible refine Below.setCell' ?_ ?_ _ | with_reducible refine Below.drewN' ?_ _ | with_reducible refine Below.drew ?_ | with_reducible refine Below.transA ?_ (by assumption) ?_ | omega | (focus (simp; done)) | (focus (simp; omega))))
  have hP : PairB (((w.alloc (.cells #[.int .i64 0, .int .i64 0] 51)).alloc (.cells #[.int .i64 0, .int .i64 0] 51)).alloc (.cells #[.slice C n cc, .int .i64 0, .int .u64 0] 98)) w.heap.size 0 0 := PairB.below (PairB.below (heap_alloc_new w _) ((Below.refl _ _).alloc (Nat.le_refl _) _)) ((Below.refl _ _).alloc (Nat.le_refl _) _)
  have hQ : PairB (((w.alloc (.cells #[.int .i64 0, .int .i64 0] 51)).alloc (.cells #[.int .i64 0, .int .i64 0] 51)).alloc (.cells #[.slice C n cc, .int .i64 0, .int .u64 0] 98)) (w.heap.size + 1) 0 0 := by
    rw [← hs1]
    exact PairB.below (heap_alloc_new (w.alloc _) _) ((Below.refl _ _).alloc (Nat.le_refl _) _)
  have hB2 := hB.below hw
  clear hne hs hs1 hB hn
  go_enter Try.func34, Try.ntmps34
  go_wp2_with fail
  refine (HF.out _ _ hc hB2 (by omega)).mono ?_
  rintro e1 w1 ⟨a, b, rfl, hc1, hk1⟩
  replace hP := hP.kept hk1 (by omega)
  replace hQ := hQ.kept hk1 (by omega)
  replace hw := hk1.below hw (by omega) (by omega)
  replace hB2 := HK.out _ _ hB2 hk1
  clear hc hk1
  go_wp2_with fail
  refine (HF.out _ _ hc1 hB2 (by omega)).mono ?_
  rintro e1 w2 ⟨c, d, rfl, _, hk2⟩
  replace hP := hP.kept hk2 (by omega)
  replace hQ := hQ.kept hk2 (by omega)
  replace hw := hk2.below hw (by omega) (by omega)
  clear hc1 hk2 hB2
  have p0 := hP.c0
  have p1 := hP.c1
  have f0 := hP.free 0
  have f1 := hP.free 1
  have q0 := hQ.c0
  have q1 := hQ.c1
  have g0 := hQ.free 0
  have g1 := hQ.free 1
  clear hP hQ
  go_wp2
  refine bodyPost_ret (v := .tuple #[.agg #[.int .i64 a, .int .i64 b], .agg #[.int .i64 c, .int .i64 d]]) (by simp (maxDischargeDepth := 9) [results, Try.results34, go_sem, *]) rfl ⟨_, _, _, _, rfl, ?_⟩
  (repeat (first | with_reducible exact Below.refl _ _ | with_reducible assumption | with_reducible refine Below.alloc' ?_ ?_ _ | with_reducible refine Below.setCell' ?_ ?_ _ | with_reducible refine Below.drewN' ?_ _ | with_reducible refine Below.drew ?_ | with_reducible refine Below.transA ?_ (by assumption) ?_ | omega | (focus (simp; done)) | (focus (simp; omega))))
set_option maxHeartbeats 2000000 in
set_option maxRecDepth 100000 in
theorem drawCompare_any (C : Option Addr) (n cc : Nat) (w : World) (hB : Byt w C n) (hn : n ≤ 1000000) :
    Calls Try.prog 39 #[.slice C n cc] w fun e w' => ∃ a b c d : Int, e = .returned (.tuple #[.agg #[.int .i64 a, .int .i64 b], .agg #[.int .i64 c, .int .i64 d]]) ∧ Below w.heap.size w w' := by
  have hne : ∀ b o, 0 < n → C = some ⟨b, o, none⟩ → b ≠ w.heap.size + 1 + 1 := fun b o h0 e => by have := byt_lt hB h0 e; omega
  have HF := Lib.hid (fun W m (h : CurB W (w.heap.size + 1 + 1) C n cc m) (hb : Byt W C n) (hm : m ≤ 100) => fraction_draw W h hb hne (by omega) hn)
  have HO := Lib.hid (fun W m (q : Int) (h : CurB W (w.heap.size + 1 + 1) C n cc m) (hb : Byt W C n) (hm : m ≤ 100) (hq : 1 ≤ q ∧ q ≤ 1000000000) => one_draw q W h hb hne (by omega) hn hq)
  have HK := Lib.hid (fun W W' (hb : Byt W C n) (hk : KeptBut W W' (w.heap.size + 1 + 1) (w.heap.size + 1 + 1)) => hb.kept hk hne)
  have hc := cur_new ((w.alloc (.cells #[.int .i64 0, .int .i64 0] 51)).alloc (.cells #[.int .i64 0, .int .i64 0] 51)) C n cc
  have hs : ((w.alloc (.cells #[.int .i64 0, .int .i64 0] 51)).alloc (.cells #[.int .i64 0, .int .i64 0] 51)).heap.size = w.heap.size + 1 + 1 := by simp
  have hs1 : (w.alloc (.cells #[.int .i64 0, .int .i64 0] 51)).heap.size = w.heap.size + 1 := by simp
  rw [hs] at hc
  have hw : Below w.heap.size w (((w.alloc (.cells #[.int .i64 0, .int .i64 0] 51)).alloc (.cells #[.int .i64 0, .int .i64 0] 51)).alloc (.cells #[.slice C n cc, .int .i64 0, .int .u64 0] 98)) := by (repeat (first | with_reducible exact Below.refl _ _ | with_reducible assumption | with_reducible refine Below.alloc' ?_ ?_ _ | with_reducible refine Below.setCell' ?_ ?_ _ | with_reducible refine Below.drewN' ?_ _ | with_reducible refine Below.drew ?_ | with_reducible refine Below.transA ?_ (by assumption) ?_ | omega | (focus (simp; done)) | (focus (simp; omega))))
  have hP : PairB (((w.alloc (.cells #[.int .i64 0, .int .i64 0] 51)).alloc (.cells #[.int .i64 0, .int .i64 0] 51)).alloc (.cells #[.slice C n cc, .int .i64 0, .int .u64 0] 98)) w.heap.size 0 0 := PairB.below (PairB.below (heap_alloc_new w _) ((Below.refl _ _).alloc (Nat.le_refl _) _)) ((Below.refl _ _).alloc (Nat.le_refl _) _)
  have hQ : PairB (((w.alloc (.cells #[.int .i64 0, .int .i64 0] 51)).alloc (.cells #[.int .i64 0, .int .i64 0] 51)).alloc (.cells #[.slice C n cc, .int .i64 0, .int .u64 0] 98)) (w.heap.size + 1) 0 0 := by
    rw [← hs1]
    exact PairB.below (heap_alloc_new (w.alloc _) _) ((Below.refl _ _).alloc (Nat.le_refl _) _)
  have hB2 := hB.below hw
  clear hne hs hs1 hB hn
  go_enter Try.func39, Try.ntmps39
  go_wp2_with fail
  refine (HF.out _ _ hc hB2 (by omega)).mono ?_
  rintro e1 w1 ⟨a, b, rfl, hc1, hk1⟩
  replace hP := hP.kept hk1 (by omega)
  replace hQ := hQ.kept hk1 (by omega)
  replace hw := hk1.below hw (by omega) (by omega)
  replace hB2 := HK.out _ _ hB2 hk1
  clear hc hk1
  have hgl := hc1.lt
  have hbA : Below w1.heap.size w1 (w1.alloc (.cells #[.int .i64 a, .int .i64 b] 51)) := (Below.refl _ _).alloc (Nat.le_refl _) _
  have hR : PairB (w1.alloc (.cells #[.int .i64 a, .int .i64 b] 51)) w1.heap.size a b := heap_alloc_new w1 _
  replace hP := hP.below hbA
  replace hQ := hQ.below hbA
  replace hw := keep_below hbA hw
  replace hB2 := hB2.below hbA
  replace hc1 := hc1.below hbA
  clear hbA
  go_wp2_with fail
  refine (HO.out _ _ _ hc1 hB2 (by omega) (by omega)).mono ?_
  rintro e1 w2 ⟨r, rfl, hc2, hk2⟩
  replace hP := hP.kept hk2 (by omega)
  replace hQ := hQ.kept hk2 (by omega)
  replace hR := hR.kept hk2 (by omega)
  replace hw := hk2.below hw (by omega) (by omega)
  replace hB2 := HK.out _ _ hB2 hk2
  generalize w1.heap.size = gR at *
  clear hc1 hk2
  have p0 := hP.c0
  have p1 := hP.c1
  have f0 := hP.free 0
  have f1 := hP.free 1
  have q0 := hQ.c0
  have q1 := hQ.c1
  have g0 := hQ.free 0
  have g1 := hQ.free 1
  have r0 := hR.c0
  have r1 := hR.c1
  cases r with
  | true =>
    clear hP hQ hR
    go_wp2
    go_region
    all_goals
      go_wp2
      refine bodyPost_ret (v := .tuple #[.agg #[.int .i64 a, .int .i64 b], .agg #[.int .i64 a, .int .i64 b]]) (by simp (maxDischargeDepth := 9) [results, Try.results39, go_sem, *]) rfl ⟨_, _, _, _, rfl, ?_⟩
      (repeat (first | with_reducible exact Below.refl _ _ | with_reducible assumption | with_reducible refine Below.alloc' ?_ ?_ _ | with_reducible refine Below.setCell' ?_ ?_ _ | with_reducible refine Below.drewN' ?_ _ | with_reducible refine Below.drew ?_ | with_reducible refine Below.transA ?_ (by assumption) ?_ | omega | (focus (simp; done)) | (focus (simp; omega))))
  | false =>
    go_wp2
    refine wp_region_held_drew (S := fun w' => w'.cell? ⟨gR, 0, none⟩ = some (.int .i64 a) ∧ w'.cell? ⟨gR, 1, none⟩ = some (.int .i64 b) ∧ Below w.heap.size w w') (by kernel_rfl) ⟨r0, r1, hw.drew⟩ (fun hHeld => ?_)
    refine wpAnyH_take (i := 0) (oi := ?ooc1) (v := ?vvc1) ?hic1 (by kernel_rfl) (by kernel_rfl) (by kernel_rfl) ?hqc1 (Or.inl ⟨?hgc1, ?hyc1⟩) (by assumption) ?restc1
    case hic1 => simp only [List.getElem?_toArray, List.getElem?_cons_zero, List.getElem?_cons_succ]; rfl
    case hqc1 => exact fun _ _ _ h => h
    case hgc1 => rfl
    case hyc1 =>
      intro wq hSw
      obtain ⟨r0, r1, hw⟩ := hSw
      go_simp
      (try with_reducible rfl)
    (try simp only [Act.put, List.setIfInBounds_toArray, List.set_cons_zero, List.set_cons_succ])
    refine wpAnyH_take (i := 1) (oi := ?ooc2) (v := ?vvc2) ?hic2 (by kernel_rfl) (by kernel_rfl) (by kernel_rfl) ?hqc2 (Or.inl ⟨?hgc2, ?hyc2⟩) (by assumption) ?restc2
    case hic2 => simp only [List.getElem?_toArray, List.getElem?_cons_zero, List.getElem?_cons_succ]; rfl
    case hqc2 => exact fun _ _ _ h => h
    case hgc2 => rfl
    case hyc2 =>
      intro wq hSw
      obtain ⟨r0, r1, hw⟩ := hSw
      go_simp
      (try with_reducible rfl)
    (try simp only [Act.put, List.setIfInBounds_toArray, List.set_cons_zero, List.set_cons_succ])
    refine wpAnyH_ready (rs := [2]) (by kernel_rfl) (by simp) ?_
    refine AllReadyH.cons (i := 2) (o := ?ooc3) ?hoc3 (fun K9 hK9 => ?hstepc3) AllReadyH.nil
    case hoc3 => simp only [List.getElem?_toArray, List.getElem?_cons_zero, List.getElem?_cons_succ]; rfl
    clear hHeld
    replace r0 : w2.drew.cell? ⟨gR, 0, none⟩ = some (.int .i64 a) := r0
    replace r1 : w2.drew.cell? ⟨gR, 1, none⟩ = some (.int .i64 b) := r1
    replace hw := hw.drew
    go_simp
    refine (HF.out w2.drew _ hc2 hB2 (by omega)).mono ?_
    rintro e1 wpc3 ⟨c, d, rfl, _, hk3⟩
    replace hk3 : KeptBut w2 wpc3 (w.heap.size + 1 + 1) (w.heap.size + 1 + 1) := ⟨hk3.os, hk3.tape, hk3.output, hk3.size, hk3.block⟩
    replace hP := hP.kept hk3 (by omega)
    replace hQ := hQ.kept hk3 (by omega)
    replace r0 := hk3.cell r0 (by simp; omega) (by simp; omega)
    replace r1 := hk3.cell r1 (by simp; omega) (by simp; omega)
    replace hw : Below w.heap.size w wpc3 := KeptBut.below (u := w) hk3 ⟨hw.os, hw.tape, hw.output, hw.size, hw.block⟩ (by omega) (by omega)
    clear p0 p1 f0 f1 q0 q1 g0 g1 hc2 hk3 hB2 hR
    have p0 := hP.c0
    have p1 := hP.c1
    have f0 := hP.free 0
    have f1 := hP.free 1
    go_wp2_with fail
    refine hK9.out _ _ ⟨r0, r1, hw⟩ (fun hHeld => ?_)
    clear hK9 K9
    (try simp only [Act.put, List.setIfInBounds_toArray, List.set_cons_zero, List.set_cons_succ])
    refine wpAnyH_ready (rs := [3]) (by kernel_rfl) (by simp) ?_
    refine AllReadyH.cons (i := 3) (o := ?ooc4) ?hoc4 (fun K9 hK9 => ?hstepc4) AllReadyH.nil
    case hoc4 => simp only [List.getElem?_toArray, List.getElem?_cons_zero, List.getElem?_cons_succ]; rfl
    go_simp
    clear hHeld
    refine hK9.out _ _ ⟨cell_far (g := w.heap.size) (cell_far (g := w.heap.size) r0 (by simp; omega) 0) (by simp; omega) 1, cell_far (g := w.heap.size) (cell_far (g := w.heap.size) r1 (by simp; omega) 0) (by simp; omega) 1, Below.setCell' (p := ⟨w.heap.size, 1, none⟩) (by simp) (Below.setCell' (p := ⟨w.heap.size, 0, none⟩) (by simp) hw _) _⟩ (fun hHeld => ?_)
    clear hK9 K9
    (try simp only [Act.put, List.setIfInBounds_toArray, List.set_cons_zero, List.set_cons_succ])
    refine wpAnyH_name hHeld (fun wyc4 hHa hwz => ?_)
    replace r0 : wyc4.cell? ⟨gR, 0, none⟩ = some (.int .i64 a) := by rw [hwz]; exact cell_far (g := w.heap.size) (cell_far (g := w.heap.size) r0 (by simp; omega) 0) (by simp; omega) 1
    replace r1 : wyc4.cell? ⟨gR, 1, none⟩ = some (.int .i64 b) := by rw [hwz]; exact cell_far (g := w.heap.size) (cell_far (g := w.heap.size) r1 (by simp; omega) 0) (by simp; omega) 1
    replace hw : Below w.heap.size w wyc4 := by rw [hwz]; exact Below.setCell' (p := ⟨w.heap.size, 1, none⟩) (by simp) (Below.setCell' (p := ⟨w.heap.size, 0, none⟩) (by simp) hw _) _
    replace hQ : PairB wyc4 (w.heap.size + 1) 0 0 := by rw [hwz]; exact (hQ.far (p := w.heap.size) (by omega) _ _).far (p := w.heap.size) (by omega) _ _
    replace hP : PairB wyc4 w.heap.size a b := by rw [hwz]; exact hP.put a b
    clear p0 p1 f0 f1
    have q0 := hQ.c0
    have q1 := hQ.c1
    have g0 := hQ.free 0
    have g1 := hQ.free 1
    clear hHeld hwz
    have hHeld := hHa
    clear hHa
    refine wpAnyH_ready (rs := [4]) (by kernel_rfl) (by simp) ?_
    refine AllReadyH.cons (i := 4) (o := ?ooc5) ?hoc5 (fun K9 hK9 => ?hstepc5) AllReadyH.nil
    case hoc5 => simp only [List.getElem?_toArray, List.getElem?_cons_zero, List.getElem?_cons_succ]; rfl
    go_simp
    clear hHeld
    refine hK9.out _ _ ⟨cell_far (g := (w.heap.size + 1)) (cell_far (g := (w.heap.size + 1)) r0 (by simp; omega) 0) (by simp; omega) 1, cell_far (g := (w.heap.size + 1)) (cell_far (g := (w.heap.size + 1)) r1 (by simp; omega) 0) (by simp; omega) 1, Below.setCell' (p := ⟨(w.heap.size + 1), 1, none⟩) (by simp) (Below.setCell' (p := ⟨(w.heap.size + 1), 0, none⟩) (by simp) hw _) _⟩ (fun hHeld => ?_)
    clear hK9 K9
    (try simp only [Act.put, List.setIfInBounds_toArray, List.set_cons_zero, List.set_cons_succ])
    refine wpAnyH_name hHeld (fun wyc5 hHa hwz => ?_)
    replace r0 : wyc5.cell? ⟨gR, 0, none⟩ = some (.int .i64 a) := by rw [hwz]; exact cell_far (g := (w.heap.size + 1)) (cell_far (g := (w.heap.size + 1)) r0 (by simp; omega) 0) (by simp; omega) 1
    replace r1 : wyc5.cell? ⟨gR, 1, none⟩ = some (.int .i64 b) := by rw [hwz]; exact cell_far (g := (w.heap.size + 1)) (cell_far (g := (w.heap.size + 1)) r1 (by simp; omega) 0) (by simp; omega) 1
    replace hw : Below w.heap.size w wyc5 := by rw [hwz]; exact Below.setCell' (p := ⟨(w.heap.size + 1), 1, none⟩) (by simp) (Below.setCell' (p := ⟨(w.heap.size + 1), 0, none⟩) (by simp) hw _) _
    replace hP : PairB wyc5 w.heap.size a b := by rw [hwz]; exact (hP.far (p := w.heap.size + 1) (by omega) _ _).far (p := w.heap.size + 1) (by omega) _ _
    replace hQ : PairB wyc5 (w.heap.size + 1) c d := by rw [hwz]; exact hQ.put c d
    clear q0 q1 g0 g1
    have q0 := hQ.c0
    have q1 := hQ.c1
    have p0 := hP.c0
    have p1 := hP.c1
    clear hHeld hwz
    have hHeld := hHa
    clear hHa
    clear hHeld
    refine wpAnyH_done (by kernel_rfl) ?_ _
    clear hP hQ
    go_wp2
    refine bodyPost_ret (v := .tuple #[.agg #[.int .i64 a, .int .i64 b], .agg #[.int .i64 c, .int .i64 d]]) (by simp (maxDischargeDepth := 9) [results, Try.results39, go_sem, *]) rfl ⟨_, _, _, _, rfl, ?_⟩
    exact hw
set_option maxHeartbeats 2000000 in
set_option maxRecDepth 100000 in
theorem drawFractionOf_any (C : Option Addr) (n cc : Nat) (w : World) (hB : Byt w C n) (hn : n ≤ 1000000) :
    Calls Try.prog 42 #[.slice C n cc] w fun e w' => ∃ a b : Int, e = .returned (.tuple #[.int .i64 a, .int .i64 b]) ∧ (-9223372036854775808 ≤ a ∧ a ≤ 9223372036854775807) ∧ (-9223372036854775808 ≤ b ∧ b ≤ 9223372036854775807) ∧ Below w.heap.size w w' := by
  have hne : ∀ b o, 0 < n → C = some ⟨b, o, none⟩ → b ≠ w.heap.size := fun b o h0 e => by have := byt_lt hB h0 e; omega
  have HA := Lib.hid (fun W m (A : Option Addr) (c : Nat) (xs : List Int) (h : CurB W w.heap.size C n cc m) (hb : Byt W C n) (hm : m ≤ 100) (hA : IntS W A xs) (hAg : ∀ b o, A = some ⟨b, o, none⟩ → b ≠ w.heap.size) (hx : 1 ≤ xs.length ∧ xs.length ≤ 1000) => among_draw A c xs W h hb hne (by omega) hn hA hAg hx)
  have HK := Lib.hid (fun W W' (hb : Byt W C n) (hk : KeptBut W W' w.heap.size w.heap.size) => hb.kept hk hne)
  have hc := cur_new w C n cc
  have hw : Below w.heap.size w (w.alloc (.cells #[.slice C n cc, .int .i64 0, .int .u64 0] 98)) := (Below.refl _ _).alloc (Nat.le_refl _) _
  have hB2 := hB.below hw
  have HL1 : Hid ((i64s ([0, 6, -4, 15, 1000000000, -1000000000, 1000000001, -9223372036854775808, 7] : List Int)).toArray = #[.int .i64 0, .int .i64 6, .int .i64 (-4), .int .i64 15, .int .i64 1000000000, .int .i64 (-1000000000), .int .i64 1000000001, .int .i64 (-9223372036854775808), .int .i64 7]) := rfl
  have HL2 : Hid ((i64s ([1, 2, -3, 9, 0, 1000000, 1000001, -1000000000, 4611686018427387904, 6] : List Int)).toArray = #[.int .i64 1, .int .i64 2, .int .i64 (-3), .int .i64 9, .int .i64 0, .int .i64 1000000, .int .i64 1000001, .int .i64 (-1000000000), .int .i64 4611686018427387904, .int .i64 6]) := rfl
  have HR1 : Hid (∀ j, j < 9 → -9223372036854775808 ≤ nth ([0, 6, -4, 15, 1000000000, -1000000000, 1000000001, -9223372036854775808, 7] : List Int) j ∧ nth ([0, 6, -4, 15, 1000000000, -1000000000, 1000000001, -9223372036854775808, 7] : List Int) j ≤ 9223372036854775807) := by show ∀ j, j < 9 → _; decide
  have HR2 : Hid (∀ j, j < 10 → -9223372036854775808 ≤ nth ([1, 2, -3, 9, 0, 1000000, 1000001, -1000000000, 4611686018427387904, 6] : List Int) j ∧ nth ([1, 2, -3, 9, 0, 1000000, 1000001, -1000000000, 4611686018427387904, 6] : List Int) j ≤ 9223372036854775807) := by show ∀ j, j < 10 → _; decide
  obtain ⟨wa, hwa⟩ : ∃ wa, wa = w.alloc (.cells #[.slice C n cc, .int .i64 0, .int .u64 0] 98) := ⟨_, rfl⟩
  rw [← hwa] at hc hw hB2
  have HWA := Lib.hid hwa
  have hgl := hc.lt
  clear hne hB hn hwa
  go_enter Try.func42, Try.ntmps42
  go_upto_region 2 with (fail)
  rw [← HWA.out]
  clear HWA
  have hI1 := list_IntS wa ([0, 6, -4, 15, 1000000000, -1000000000, 1000000001, -9223372036854775808, 7] : List Int) (by decide)
  rw [HL1.out] at hI1
  have hbA : Below wa.heap.size wa (wa.alloc (.cells #[.int .i64 0, .int .i64 6, .int .i64 (-4), .int .i64 15, .int .i64 1000000000, .int .i64 (-1000000000), .int .i64 1000000001, .int .i64 (-9223372036854775808), .int .i64 7] 3)) := (Below.refl _ _).alloc (Nat.le_refl _) _
  replace hc := hc.below hbA
  replace hB2 := hB2.below hbA
  replace hw := keep_below hbA hw
  clear hbA
  go_wp2_with fail
  refine (HA.out _ _ _ 9 ([0, 6, -4, 15, 1000000000, -1000000000, 1000000001, -9223372036854775808, 7] : List Int) hc hB2 (by omega) hI1 (fun b o e => by injection e with e; injection e with e; omega) (by decide)).mono ?_
  rintro e1 w2 ⟨j1, hj1, rfl, hc2, hk2⟩
  have hr1 := HR1.out j1 hj1
  generalize nth ([0, 6, -4, 15, 1000000000, -1000000000, 1000000001, -9223372036854775808, 7] : List Int) j1 = a at *
  replace hw := hk2.below hw (Nat.le_refl _) (Nat.le_refl _)
  replace hB2 := HK.out _ _ hB2 hk2
  clear hc hk2 hI1 HL1 HR1 hj1 hgl
  have hgl := hc2.lt
  have hI2 := list_IntS w2 ([1, 2, -3, 9, 0, 1000000, 1000001, -1000000000, 4611686018427387904, 6] : List Int) (by decide)
  rw [HL2.out] at hI2
  have hbA : Below w2.heap.size w2 (w2.alloc (.cells #[.int .i64 1, .int .i64 2, .int .i64 (-3), .int .i64 9, .int .i64 0, .int .i64 1000000, .int .i64 1000001, .int .i64 (-1000000000), .int .i64 4611686018427387904, .int .i64 6] 3)) := (Below.refl _ _).alloc (Nat.le_refl _) _
  replace hc2 := hc2.below hbA
  replace hB2 := hB2.below hbA
  replace hw := keep_below hbA hw
  clear hbA
  go_wp2_with fail
  refine (HA.out _ _ _ 10 ([1, 2, -3, 9, 0, 1000000, 1000001, -1000000000, 4611686018427387904, 6] : List Int) hc2 hB2 (by omega) hI2 (fun b o e => by injection e with e; injection e with e; omega) (by decide)).mono ?_
  rintro e1 w3 ⟨j2, hj2, rfl, hc3, hk3⟩
  have hr2 := HR2.out j2 hj2
  generalize nth ([1, 2, -3, 9, 0, 1000000, 1000001, -1000000000, 4611686018427387904, 6] : List Int) j2 = b at *
  replace hw := hk3.below hw (Nat.le_refl _) (Nat.le_refl _)
  clear hc2 hk3 hI2 HL2 HR2 hj2 hgl hB2 hc3
  go_wp2
  go_ret2
  exact ⟨a, b, rfl, hr1, hr2, hw⟩
theorem rBig_any (C : Option Addr) (n cc : Nat) (w : World) : Calls Try.prog 33 #[.slice C n cc] w fun e w' => e = .returned (.bool (decide (65536 < n))) ∧ w' = w := by
  have e : decide ((n : Int) > 65536) = decide (65536 < n) := decide_eq_decide.2 (by omega)
  go_enter Try.func33, Try.ntmps33
  go_wp2
  go_ret
  exact ⟨by simp [*], rfl⟩
end Go.Proofs.Ytombfbmcplefgaa
