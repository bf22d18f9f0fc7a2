/- Contracts: a process that is stopped. -/
import Derived.Test.YtombfbmcplefgaaSProcP
import Derived.StillTailTactics
import Derived.Deep.RegionHeld3
import Derived.Deep.DeepCutAuto
namespace Go.Proofs.Ytombfbmcplefgaa
open Go.ChangeShapes Go.WideShapes Go.ChangeAt Go.RowKit

theorem RowB.free {w : World} {g n : Nat} {f : Nat → Bool} (h : RowB w g n f) (j : Nat) : w.frozen? ⟨g, j, none⟩ = false := by
  unfold RowB at h; simp [World.frozen?, h]
theorem RowB.congr {w : World} {g n : Nat} {f f' : Nat → Bool} (h : RowB w g n f) (he : ∀ i, i < n → f i = f' i) : RowB w g n f' := by
  unfold RowB at *; rw [← bArr_congr n he]; exact h
theorem RowB.set {w : World} {g n : Nat} {f f' : Nat → Bool} (h : RowB w g n f) (k : Nat) (b : Bool) (he : ∀ i, i < n → (if i = k then b else f i) = f' i) : RowB (w.setCell ⟨g, k, none⟩ (.bool b)) g n f' := by
  refine RowB.congr (f := fun i => if i = k then b else f i) ?_ he
  have := set_block h k (.bool b)
  unfold RowB
  rw [this, bArr_set]
theorem RowB.far {w : World} {g n : Nat} {f : Nat → Bool} (h : RowB w g n f) {q : Nat} (hq : g ≠ q) (k : Nat) (v : Value) : RowB (w.setCell ⟨q, k, none⟩ v) g n f :=
  (Below.heap_setCell _ _ _ _ hq).trans h
theorem Row.far {w : World} {g : Nat} {L : List Int} (h : Row w g L) {q : Nat} (hq : g ≠ q) (k : Nat) (v : Value) : Row (w.setCell ⟨q, k, none⟩ v) g L :=
  h.of_block (Below.heap_setCell _ _ _ _ hq)
/-- The bools while they are changed: the first k are done. -/
def sbT (xs qs : List Int) (k : Nat) (x : Nat) : Bool := decide (x < k) && spB xs qs x
theorem sp_case {xs ps qs : List Int} (hpl : ps.length = xs.length) (hs : isStp xs qs = true) {x : Nat} (hx : x < xs.length) :
    ((bothL qs (wayL xs x)).length = 0 ∧ spT xs ps qs (x + 1) = spT xs ps qs x) ∨ (1 ≤ (bothL qs (wayL xs x)).length ∧ ∃ q : Nat, nth (bothL qs (wayL xs x)) 0 = q ∧ q < ps.length ∧ (spT xs ps qs x).set x (nth ps q) = spT xs ps qs (x + 1)) := by
  have hxp : x < ps.length := by omega
  by_cases h : (bothL qs (wayL xs x)).length = 0
  · refine .inl ⟨h, spT_same hxp ?_⟩
    unfold spF spB
    rw [if_neg (by rw [decide_eq_false (by omega)]; simp)]
  · have h1 : 0 < (bothL qs (wayL xs x)).length := by omega
    have hm := both_mem.1 (nth_mem (L := bothL qs (wayL xs x)) h1)
    obtain ⟨j, hj, e⟩ := mem_nth hm.1
    obtain ⟨q, hq, hqn⟩ := stp_node hs j hj
    refine .inr ⟨h1, q, by omega, by omega, ?_⟩
    rw [← spT_set hxp]
    unfold spF spB
    rw [if_pos (decide_eq_true h1), show nth (bothL qs (wayL xs x)) 0 = q by omega, Int.toNat_natCast]
set_option maxHeartbeats 2000000 in
set_option maxRecDepth 100000 in
theorem specStoppedProcess_any (A B : Option Addr) (c e : Nat) (xs ys : List Int) (P : Option Addr) (cp : Nat) (ps : List Int) (Q : Option Addr) (cq : Nat) (qs : List Int) (w : World) (h : IntS w A xs) (k : IntS w B ys) (zp : IntS w P ps) (zq : IntS w Q qs) (_hx : Bd xs) (_hy : Bd ys) (_bp : Bd ps) (_bq : Bd qs) (hn : xs.length ≤ 1048576) (hm : ys.length ≤ 1048576) (lp : ps.length ≤ 1048576) (lq : qs.length ≤ 1048576) :
    Calls Try.prog 26 #[.agg #[.slice A xs.length c, .slice B ys.length e], .slice P ps.length cp, .slice Q qs.length cq] w (RetIB w (spR xs ys ps qs) (smOk xs ys ps qs)) := by
  obtain ⟨r1, q1⟩ : ∃ r, (good xs ys && isProc xs.length ps && isStp xs qs) = r := ⟨_, rfl⟩
  cases r1
  case false =>
    have hO : smOk xs ys ps qs = false := by unfold smOk ; simp [q1]
    have hV_spR := spR_no hO
    rw [hV_spR]
    (try rw [hO])
    clear hO hV_spR
    have HG1 := Lib.hid (fun W (h : IntS W A xs) (k : IntS W B ys) (zp : IntS W P ps) (zq : IntS W Q qs) => l3Both_any A B P Q c e cp cq xs ys ps qs W h k zp zq _hx _hy hn hm lp lq)
    rw [q1] at HG1
    clear q1 _hx _hy _bp _bq
    go_enter Try.func26, Try.ntmps26
    go_wp2_with fail
    refine (HG1.out _ (h.alloc _) (k.alloc _) (zp.alloc _) (zq.alloc _)).mono ?_
    rintro e1 w1 ⟨rfl, hb⟩
    have hx0 : w1.cell? ⟨w.heap.size, 0, none⟩ = some (.slice A xs.length c) := keep_cell hb (by simp)
    have hx1 : w1.cell? ⟨w.heap.size, 1, none⟩ = some (.slice B ys.length e) := keep_cell hb (by simp)
    have hw : Below w.heap.size w w1 := below_alloc (hb)
    clear hb
    go_wp2
    go_ret2
    exact ⟨_, _, rfl, .inr ⟨_, rfl, hw.size, ⟨#[], heap_alloc_new _ _, [], rfl⟩⟩, keep_below_alloc hw _⟩
  case true =>
    have hO : smOk xs ys ps qs = true := by unfold smOk ; simp [q1]
    have hV_spR := spR_yes hO
    rw [hV_spR]
    (try rw [hO])
    clear hO hV_spR
    have HG1 := Lib.hid (fun W (h : IntS W A xs) (k : IntS W B ys) (zp : IntS W P ps) (zq : IntS W Q qs) => l3Both_any A B P Q c e cp cq xs ys ps qs W h k zp zq _hx _hy hn hm lp lq)
    rw [q1] at HG1
    have hgl := good_len (Bool.and_eq_true_iff.1 (Bool.and_eq_true_iff.1 q1).1).1
    have hpl := (isProc_iff (Bool.and_eq_true_iff.1 (Bool.and_eq_true_iff.1 q1).1).2).1
    have hpl1 : 1 ≤ ps.length := by omega
    have hps : ps.length ≤ 24 := by omega
    have hn24 : xs.length ≤ 24 := hgl.2.1
    have HPL : Hid (ps.length = xs.length) := hpl
    have HTL := Lib.hid (fun k => spT_len xs ps qs k)
    have HT0 := Lib.hid (spT_zero xs ps qs)
    have HOw := Lib.hid (fun W (zp : IntS W P ps) => l1Own_any P cp ps W zp (by omega) (by omega))
    have HOn := Lib.hid (fun W (x : Nat) (hx : x < xs.length) (h : IntS W A xs) (zq : IntS W Q qs) => l3On_any (Bool.and_eq_true_iff.1 (Bool.and_eq_true_iff.1 q1).1).1 A B Q c ys.length e cq x qs W h zq hx lq)
    have HC := Lib.hid (fun x (hx : x < xs.length) => sp_case (ps := ps) hpl (Bool.and_eq_true_iff.1 q1).2 hx)
    clear hgl hpl
    generalize spT xs ps qs = T at *
    clear q1 _hx _hy _bp _bq
    go_enter Try.func26, Try.ntmps26
    go_wp2_with fail
    refine (HG1.out _ (h.alloc _) (k.alloc _) (zp.alloc _) (zq.alloc _)).mono ?_
    rintro e1 w1 ⟨rfl, hb⟩
    have hx0 : w1.cell? ⟨w.heap.size, 0, none⟩ = some (.slice A xs.length c) := keep_cell hb (by simp)
    have hx1 : w1.cell? ⟨w.heap.size, 1, none⟩ = some (.slice B ys.length e) := keep_cell hb (by simp)
    have hw : Below w.heap.size w w1 := below_alloc (hb)
    clear hb
    clear HG1
    have hsW := World.block_lt_of_cell? _ _ hx0
    replace hsW : w.heap.size < w1.heap.size := hsW
    go_wp2_with fail
    refine (HOw.out _ (zp.below hw)).mono ?_
    rintro e1 w9 ⟨gO, cO, rfl, hrO, hgO, hb⟩
    have hgW : w.heap.size < gO := by omega
    replace hx0 := keep_cell hb hx0
    replace hx1 := keep_cell hb hx1
    replace hw := keep_below hb hw
    clear hb hgO hsW
    go_wp2
    go_loopw [9] (fun iv wr => ∃ x : Nat, x ≤ ps.length ∧ iv = .int .i64 x ∧ Row wr gO (T x) ∧ wr.cell? ⟨w.heap.size, 0, none⟩ = some (.slice A xs.length c) ∧ wr.cell? ⟨w.heap.size, 1, none⟩ = some (.slice B ys.length e) ∧ Below w.heap.size w wr) (fun iv _ => ps.length - (intOf iv).toNat)
    case atStart => exact ⟨0, by omega, rfl, by rw [HT0.out]; exact hrO, hx0, hx1, hw⟩
    case round =>
      clear hrO hx0 hx1 hw
      obtain ⟨x, hx, rfl, hrO, hx0, hx1, hw⟩ := hrel
      by_cases hlt : x < ps.length
      · have hxn : x < xs.length := by rw [← HPL.out]; exact hlt
        have HO9 := Lib.hid (fun W (h : IntS W A xs) (zq : IntS W Q qs) => HOn.out W x hxn h zq)
        have hc := HC.out x hxn
        have i1 : (x : Int) < ps.length := by omega
        generalize bothL qs (wayL xs x) = K at *
        rcases hc with ⟨hk0, hT⟩ | ⟨hk1, q, hq, hqn, hT⟩
        · have d1 : ¬ ((K.length : Int) > 0) := by omega
          have d2 : decide ((K.length : Int) > 0) = false := decide_eq_false d1
          have HN := Lib.hid hT
          clear hk0 hT
          go_wp2_with fail
          refine (HO9.out _ (h.below hw) (zq.below hw)).mono ?_
          rintro e1 w2 ⟨A1, c1, rfl, ho, hb⟩
          go_wp2
          go_roundw
          case rel => exact ⟨x + 1, by omega, by go_num, by rw [HN.out]; exact hrO.below hb, keep_cell hb hx0, keep_cell hb hx1, keep_below hb hw⟩
          case measure => simp [intOf]; omega
        · have d1 : (K.length : Int) > 0 := by omega
          have d2 : decide ((K.length : Int) > 0) = true := decide_eq_true d1
          have HQ := Lib.hid hq
          have HN := Lib.hid hT
          have i2 : (q : Int) < ps.length := by omega
          have i3 : (0 : Int) < K.length := by omega
          have i4 : 0 < K.length := by omega
          clear hq hT
          go_wp2_with fail
          refine (HO9.out _ (h.below hw) (zq.below hw)).mono ?_
          rintro e1 w2 ⟨A1, c1, rfl, ho, hb⟩
          obtain ⟨gK, rfl, hgK, hrK⟩ := ho.pos hk1
          have hcK := hrK.cell (j := 0) i4
          rw [HQ.out] at hcK
          replace hrO := hrO.below hb
          replace hx0 := keep_cell hb hx0
          replace hx1 := keep_cell hb hx1
          replace hw := keep_below hb hw
          clear ho hb hgK hrK
          obtain ⟨b9, o9, rfl, hc9⟩ := (zp.below hw).at_ (j := q) hqn
          generalize nth ps q = v9 at *
          have hcO := hrO.cell (j := x) (by rw [HTL.out]; exact hlt)
          have hfO := hrO.frozen x
          have hset := hrO.set (k := x) (by rw [HTL.out]; exact hlt) v9
          rw [HN.out] at hset
          have HX := Lib.hid hset
          have HB0 := Lib.hid (cell_far (g := gO) (u := .int .i64 v9) hx0 (by simp; omega) x)
          have HB1 := Lib.hid (cell_far (g := gO) (u := .int .i64 v9) hx1 (by simp; omega) x)
          have HB2 := Lib.hid (Below.setCell' (p := ⟨gO, x, none⟩) (Nat.le_of_lt hgW) hw (.int .i64 v9))
          clear hset hrO
          go_wp2
          go_roundw
          case rel => exact ⟨x + 1, by omega, by go_num, HX.out, HB0.out, HB1.out, HB2.out⟩
          case measure => simp [intOf]; omega
      · have hxe : x = ps.length := by omega
        have hxe2 : x = xs.length := by rw [← HPL.out]; exact hxe
        have HL := Lib.hid (show (T xs.length).length = ps.length from HTL.out _)
        rw [hxe2] at hrO
        clear HC HOn HOw HT0 HTL
        go_wp2
        go_ret2
        exact ⟨_, _, by rw [HL.out]; rfl, .inr ⟨gO, rfl, by omega, hrO⟩, hw⟩
set_option maxHeartbeats 4000000 in
set_option maxRecDepth 100000 in
theorem implStoppedProcess_any (A B : Option Addr) (c e : Nat) (xs ys : List Int) (P : Option Addr) (cp : Nat) (ps : List Int) (Q : Option Addr) (cq : Nat) (qs : List Int) (w : World) (h : IntS w A xs) (k : IntS w B ys) (zp : IntS w P ps) (zq : IntS w Q qs) (_hx : Bd xs) (_hy : Bd ys) (_bp : Bd ps) (_bq : Bd qs) (hn : xs.length ≤ 1048576) (hm : ys.length ≤ 1048576) (lp : ps.length ≤ 1048576) (lq : qs.length ≤ 1048576) :
    Calls Try.prog 27 #[.agg #[.slice A xs.length c, .slice B ys.length e], .slice P ps.length cp, .slice Q qs.length cq] w (RetIB w (spR xs ys ps qs) (smOk xs ys ps qs)) := by
  obtain ⟨r1, q1⟩ : ∃ r, (good xs ys) = r := ⟨_, rfl⟩
  cases r1
  case false =>
    have hO : smOk xs ys ps qs = false := by unfold smOk ; simp [q1]
    have hV_spR := spR_no hO
    rw [hV_spR]
    (try rw [hO])
    clear hO hV_spR
    have HG1 := Lib.hid (fun W (h : IntS W A xs) (k : IntS W B ys) => isTree_any A B c e xs ys W h k _hx _hy hn hm)
    rw [q1] at HG1
    clear q1 _hx _hy _bp _bq
    go_enter Try.func27, Try.ntmps27
    go_wp2_with fail
    refine (HG1.out _ (h.alloc _) (k.alloc _)).mono ?_
    rintro e1 w1 ⟨rfl, hb⟩
    have hx0 : w1.cell? ⟨w.heap.size, 0, none⟩ = some (.slice A xs.length c) := keep_cell hb (by simp)
    have hx1 : w1.cell? ⟨w.heap.size, 1, none⟩ = some (.slice B ys.length e) := keep_cell hb (by simp)
    have hw : Below w.heap.size w w1 := below_alloc (hb)
    clear hb
    go_wp2
    go_ret2
    exact ⟨none, 0, rfl, .inl ⟨rfl, rfl⟩, hw⟩
  case true =>
    obtain ⟨r2, q2⟩ : ∃ r, (isProc xs.length ps) = r := ⟨_, rfl⟩
    cases r2
    case false =>
      have hO : smOk xs ys ps qs = false := by unfold smOk ; simp [q1, q2]
      have hV_spR := spR_no hO
      rw [hV_spR]
      (try rw [hO])
      clear hO hV_spR
      have HG1 := Lib.hid (fun W (h : IntS W A xs) (k : IntS W B ys) => isTree_any A B c e xs ys W h k _hx _hy hn hm)
      rw [q1] at HG1
      have HG2 := Lib.hid (fun W (zp : IntS W P ps) => isProcess_any A B P c ys.length e cp xs.length ps W zp lp hn)
      rw [q2] at HG2
      clear q1 q2 _hx _hy _bp _bq
      go_enter Try.func27, Try.ntmps27
      go_wp2_with fail
      refine (HG1.out _ (h.alloc _) (k.alloc _)).mono ?_
      rintro e1 w1 ⟨rfl, hb⟩
      have hx0 : w1.cell? ⟨w.heap.size, 0, none⟩ = some (.slice A xs.length c) := keep_cell hb (by simp)
      have hx1 : w1.cell? ⟨w.heap.size, 1, none⟩ = some (.slice B ys.length e) := keep_cell hb (by simp)
      have hw : Below w.heap.size w w1 := below_alloc (hb)
      clear hb
      go_wp2_with fail
      refine (HG2.out _ (zp.below hw)).mono ?_
      rintro e1 w2 ⟨rfl, hb⟩
      replace hx0 := keep_cell hb hx0
      replace hx1 := keep_cell hb hx1
      replace hw := keep_below hb hw
      clear hb
      go_wp2
      go_ret2
      exact ⟨none, 0, rfl, .inl ⟨rfl, rfl⟩, hw⟩
    case true =>
      obtain ⟨r3, q3⟩ : ∃ r, (isStp xs qs) = r := ⟨_, rfl⟩
      cases r3
      case false =>
        have hO : smOk xs ys ps qs = false := by unfold smOk ; simp [q1, q2, q3]
        have hV_spR := spR_no hO
        rw [hV_spR]
        (try rw [hO])
        clear hO hV_spR
        have HG1 := Lib.hid (fun W (h : IntS W A xs) (k : IntS W B ys) => isTree_any A B c e xs ys W h k _hx _hy hn hm)
        rw [q1] at HG1
        have HG2 := Lib.hid (fun W (zp : IntS W P ps) => isProcess_any A B P c ys.length e cp xs.length ps W zp lp hn)
        rw [q2] at HG2
        have HG3 := Lib.hid (fun W (h : IntS W A xs) (zq : IntS W Q qs) => isStopping_good q1 A B Q c ys.length e cq qs W h zq lq)
        rw [q3] at HG3
        clear q1 q2 q3 _hx _hy _bp _bq
        go_enter Try.func27, Try.ntmps27
        go_wp2_with fail
        refine (HG1.out _ (h.alloc _) (k.alloc _)).mono ?_
        rintro e1 w1 ⟨rfl, hb⟩
        have hx0 : w1.cell? ⟨w.heap.size, 0, none⟩ = some (.slice A xs.length c) := keep_cell hb (by simp)
        have hx1 : w1.cell? ⟨w.heap.size, 1, none⟩ = some (.slice B ys.length e) := keep_cell hb (by simp)
        have hw : Below w.heap.size w w1 := below_alloc (hb)
        clear hb
        go_wp2_with fail
        refine (HG2.out _ (zp.below hw)).mono ?_
        rintro e1 w2 ⟨rfl, hb⟩
        replace hx0 := keep_cell hb hx0
        replace hx1 := keep_cell hb hx1
        replace hw := keep_below hb hw
        clear hb
        go_wp2_with fail
        refine (HG3.out _ (h.below hw) (zq.below hw)).mono ?_
        rintro e1 w3 ⟨rfl, hb⟩
        replace hx0 := keep_cell hb hx0
        replace hx1 := keep_cell hb hx1
        replace hw := keep_below hb hw
        clear hb
        go_wp2
        go_ret2
        exact ⟨none, 0, rfl, .inl ⟨rfl, rfl⟩, hw⟩
      case true =>
        have hO : smOk xs ys ps qs = true := by unfold smOk ; simp [q1, q2, q3]
        have hV_spR := spR_yes hO
        rw [hV_spR]
        (try rw [hO])
        clear hO hV_spR
        have HG1 := Lib.hid (fun W (h : IntS W A xs) (k : IntS W B ys) => isTree_any A B c e xs ys W h k _hx _hy hn hm)
        rw [q1] at HG1
        have HG2 := Lib.hid (fun W (zp : IntS W P ps) => isProcess_any A B P c ys.length e cp xs.length ps W zp lp hn)
        rw [q2] at HG2
        have HG3 := Lib.hid (fun W (h : IntS W A xs) (zq : IntS W Q qs) => isStopping_good q1 A B Q c ys.length e cq qs W h zq lq)
        rw [q3] at HG3
        have hgl := good_len q1
        have hpl := (isProc_iff q2).1
        have hpl1 : 1 ≤ ps.length := by omega
        have hps : ps.length ≤ 24 := by omega
        have hn24 : xs.length ≤ 24 := hgl.2.1
        have HPL : Hid (ps.length = xs.length) := hpl
        have HTL := Lib.hid (fun k => spT_len xs ps qs k)
        have HT0 := Lib.hid (spT_zero xs ps qs)
        have HOw := Lib.hid (fun W (zp : IntS W P ps) => copied_any P cp ps W zp (by omega) (by omega))
        have HCn := Lib.hid (fun W (v : Int) (zq : IntS W Q qs) => contains_any Q cq qs v W zq (by omega))
        have hmk := run_makeB ps.length (by omega)
        have hasc := asc_rise.1 (stp_rise q3)
        have HS := Lib.hid (fun (x p : Nat) (h1 : 1 ≤ x) (hx : x < xs.length) (hp : nth xs x = p) (hpx : p < x) => sp_step (ps := ps) (qs := qs) (good_upL q1) hasc h1 hx hp hpx)
        have HU := Lib.hid (good_upL q1)
        have HR0 := Lib.hid (sp_root (xs := xs) (ps := ps) (qs := qs))
        have HTN := Lib.hid (fun k x (hx : x < ps.length) => spT_nth (xs := xs) (qs := qs) (k := k) hx)
        have HTS := Lib.hid (fun k (hk : k < ps.length) => spT_set (xs := xs) (qs := qs) hk)
        have HTE := Lib.hid (fun k (hk : k < ps.length) (he : spF xs ps qs k = nth ps k) => spT_same hk he)
        have HB0 : Hid (∀ i, sbT xs qs 0 i = false) := fun i => by simp [sbT]
        have HBD : Hid (∀ k i, sbT xs qs k i = (decide (i < k) && spB xs qs i)) := fun k i => rfl
        clear hgl hpl hasc
        generalize spT xs ps qs = T at *
        generalize sbT xs qs = G at *
        generalize spF xs ps qs = F at *
        generalize spB xs qs = S at *
        clear q1 q2 q3 _hx _hy _bp _bq
        go_enter Try.func27, Try.ntmps27
        go_wp2_with fail
        refine (HG1.out _ (h.alloc _) (k.alloc _)).mono ?_
        rintro e1 w1 ⟨rfl, hb⟩
        have hx0 : w1.cell? ⟨w.heap.size, 0, none⟩ = some (.slice A xs.length c) := keep_cell hb (by simp)
        have hx1 : w1.cell? ⟨w.heap.size, 1, none⟩ = some (.slice B ys.length e) := keep_cell hb (by simp)
        have hw : Below w.heap.size w w1 := below_alloc (hb)
        clear hb
        go_wp2_with fail
        refine (HG2.out _ (zp.below hw)).mono ?_
        rintro e1 w2 ⟨rfl, hb⟩
        replace hx0 := keep_cell hb hx0
        replace hx1 := keep_cell hb hx1
        replace hw := keep_below hb hw
        clear hb
        go_wp2_with fail
        refine (HG3.out _ (h.below hw) (zq.below hw)).mono ?_
        rintro e1 w3 ⟨rfl, hb⟩
        replace hx0 := keep_cell hb hx0
        replace hx1 := keep_cell hb hx1
        replace hw := keep_below hb hw
        clear hb
        clear HG1 HG2 HG3
        have hsW := World.block_lt_of_cell? _ _ hx0
        replace hsW : w.heap.size < w3.heap.size := hsW
        go_upto_region 3 with (fail)
        go_cut [8, 9] (fun s8 s9 wx => ∃ gO cO gB : Nat, s8 = .slice (some ⟨gO, 0, none⟩) ps.length cO ∧ s9 = .slice (some ⟨gB, 0, none⟩) ps.length ps.length ∧ gO ≠ gB ∧ w.heap.size < gO ∧ w.heap.size < gB ∧ Row wx gO (T 0) ∧ RowB wx gB ps.length (G 0) ∧ wx.cell? ⟨w.heap.size, 0, none⟩ = some (.slice A xs.length c) ∧ wx.cell? ⟨w.heap.size, 1, none⟩ = some (.slice B ys.length e) ∧ Below w.heap.size w wx)
        case first =>
          go_region_held3 (fun w' => w'.cell? ⟨w.heap.size, 0, none⟩ = some (.slice A xs.length c) ∧ w'.cell? ⟨w.heap.size, 1, none⟩ = some (.slice B ys.length e) ∧ w.heap.size < w'.heap.size ∧ Below w.heap.size w w')
            (first | (exact ⟨hx0, hx1, hsW, hw.drew⟩) | (go_split_ands; exact ⟨keep_cell hb1 (by assumption), keep_cell hb1 (by assumption), Nat.lt_of_lt_of_le (by assumption) hb1.size, keep_below hb1 (by assumption)⟩) | (exact ⟨(show (w3.alloc _).cell? _ = _ from by rw [World.cell?_alloc_lt _ _ _ hsW]; exact hx0), (show (w3.alloc _).cell? _ = _ from by rw [World.cell?_alloc_lt _ _ _ hsW]; exact hx1), (by simp; omega), (keep_below_alloc hw _).drew⟩) | (go_split_ands; exact ⟨by rw [World.cell?_alloc_lt _ _ _ (by assumption)]; assumption, by rw [World.cell?_alloc_lt _ _ _ (by assumption)]; assumption, by simp; omega, keep_below_alloc (by assumption) _⟩))
            ((go_at_call 98; refine (HOw.out _ (zp.below (by first | (go_split_ands; assumption) | exact hw.drew))).mono ?_; rintro e1 wc ⟨gO, cO, rfl, hrO, hgO, hb1⟩))
          all_goals
            go_wp2_with fail
            go_meet
            go_split_ands
            have hlO := hrO.lt
            first
              | (clear hmk; exact ⟨gO, cO, w3.heap.size, rfl, rfl, by simp at hgO; omega, by simp at hgO; omega, by omega, by rw [HT0.out]; exact hrO, ((RowB.new w3 _ ps.length rfl).congr (fun i _ => (HB0.out i).symm)).below (show Below (w3.alloc _).heap.size (w3.alloc _) _ from ⟨hb1.os, hb1.tape, hb1.output, hb1.size, hb1.block⟩), by assumption, by assumption, by assumption⟩)
              | exact ⟨gO, cO, wc.heap.size, rfl, rfl, by omega, Nat.lt_of_lt_of_le hsW hgO, Nat.lt_of_lt_of_le hsW hb1.size, by rw [HT0.out]; exact Row.below hrO ((Below.refl _ _).alloc (Nat.le_refl _) _), (RowB.new wc _ ps.length rfl).congr (fun i _ => (HB0.out i).symm), by assumption, by assumption, by assumption⟩
        case rest =>
          clear hx0 hx1 hw hsW
          obtain ⟨gO, cO, gB, rfl, rfl, hOB, hgO, hgB, hrO, hrB, hx0, hx1, hw⟩ := hcut
          clear HOw hmk HT0 HB0
          go_wp2
          go_loopw [33] (fun iv wr => ∃ x : Nat, x ≤ ps.length ∧ iv = .int .i64 x ∧ Row wr gO (T x) ∧ RowB wr gB ps.length (G x) ∧ wr.cell? ⟨w.heap.size, 0, none⟩ = some (.slice A xs.length c) ∧ wr.cell? ⟨w.heap.size, 1, none⟩ = some (.slice B ys.length e) ∧ Below w.heap.size w wr) (fun iv _ => ps.length - (intOf iv).toNat)
          case atStart => exact ⟨0, by omega, rfl, hrO, hrB, hx0, hx1, hw⟩
          case round =>
            clear hrO hrB hx0 hx1 hw
            obtain ⟨x, hx, rfl, hrO, hrB, hx0, hx1, hw⟩ := hrel
            by_cases hlt : x < ps.length
            · have hxn : x < xs.length := by rw [← HPL.out]; exact hlt
              have i1 : (x : Int) < ps.length := by omega
              have i2 : (x : Int) < xs.length := by omega
              have hcB := hrB.cell hlt
              have hfB := hrB.free x
              by_cases hz : x = 0
              · subst hz
                go_upto_region 8 with (go_at_call 99; refine (HCn.out _ (0 : Int) (zq.below hw)).mono ?_; rintro e w' ⟨rfl, rfl⟩)
                obtain ⟨wz, hwz⟩ : ∃ wz, wz = wr.setCell ⟨gB, 0, none⟩ (.bool (hasB qs 0)) := ⟨_, rfl⟩
                rw [← hwz]
                have hrB2 : RowB wz gB ps.length (fun i => if i = 0 then hasB qs 0 else G 0 i) := by rw [hwz]; exact hrB.set 0 _ (fun i _ => rfl)
                replace hrO : Row wz gO (T 0) := by rw [hwz]; exact hrO.far hOB 0 _
                replace hx0 : wz.cell? ⟨w.heap.size, 0, none⟩ = some (.slice A xs.length c) := by rw [hwz]; exact cell_far hx0 (by simp; omega) 0
                replace hx1 : wz.cell? ⟨w.heap.size, 1, none⟩ = some (.slice B ys.length e) := by rw [hwz]; exact cell_far hx1 (by simp; omega) 0
                replace hw : Below w.heap.size w wz := by rw [hwz]; exact Below.setCell' (p := ⟨gB, 0, none⟩) (Nat.le_of_lt hgB) hw _
                clear hwz hrB hcB hfB
                have hT := HTE.out 0 hlt HR0.out.2
                have HX : Hid (RowB wz gB ps.length (G (0 + 1))) := hrB2.congr fun i hi => by
                  rw [HBD.out, HBD.out]
                  by_cases e : i = 0
                  · subst e; rw [if_pos rfl, HR0.out.1, decide_eq_true (Nat.lt_succ_self _)]; simp
                  · rw [if_neg e]
                    by_cases e2 : i < 0
                    · rw [decide_eq_true e2, decide_eq_true (by omega)]
                    · rw [decide_eq_false e2, decide_eq_false (by omega)]
                have HN := Lib.hid hT
                clear hT

                go_wp2
                go_roundw
                case rel => exact ⟨0 + 1, by omega, by go_num, by rw [HN.out]; exact hrO, HX.out, hx0, hx1, hw⟩
                case measure => simp [intOf]; omega
              · obtain ⟨p, hp, hpx⟩ := HU.out x (by omega) hxn
                obtain ⟨s1, s2, s3⟩ := HS.out x p (by omega) hxn hp hpx
                have g0 : (x : Int) > 0 := by omega
                have g1 : decide ((x : Int) > 0) = true := decide_eq_true g0
                have i3 : (p : Int) < ps.length := by omega
                have HP := Lib.hid hp
                clear hp
                go_upto_region 8 with (go_at_call 99; refine (HCn.out _ (x : Int) (zq.below hw)).mono ?_; rintro e w' ⟨rfl, rfl⟩)
                obtain ⟨wz, hwz⟩ : ∃ wz, wz = wr.setCell ⟨gB, x, none⟩ (.bool (hasB qs x)) := ⟨_, rfl⟩
                rw [← hwz]
                have hrB2 : RowB wz gB ps.length (fun i => if i = x then hasB qs x else G x i) := by rw [hwz]; exact hrB.set x _ (fun i _ => rfl)
                replace hrO : Row wz gO (T x) := by rw [hwz]; exact hrO.far hOB x _
                replace hx0 : wz.cell? ⟨w.heap.size, 0, none⟩ = some (.slice A xs.length c) := by rw [hwz]; exact cell_far hx0 (by simp; omega) x
                replace hx1 : wz.cell? ⟨w.heap.size, 1, none⟩ = some (.slice B ys.length e) := by rw [hwz]; exact cell_far hx1 (by simp; omega) x
                replace hw : Below w.heap.size w wz := by rw [hwz]; exact Below.setCell' (p := ⟨gB, x, none⟩) (Nat.le_of_lt hgB) hw _
                clear hwz hrB hcB hfB
                obtain ⟨b9, o9, rfl, hc9⟩ := (h.below hw).at_ (j := x) hxn
                rw [HP.out] at hc9
                have hcP := hrB2.cell (j := p) (by omega)
                rw [if_neg (by omega), HBD.out, decide_eq_true hpx, Bool.true_and] at hcP
                obtain ⟨sp, hsp⟩ : ∃ b, S p = b := ⟨_, rfl⟩
                rw [hsp] at hcP
                cases sp with
                | false =>
                  have hT := HTE.out x hlt (s3 hsp)
                  have HX : Hid (RowB wz gB ps.length (G (x + 1))) := hrB2.congr fun i hi => by
                    rw [HBD.out, HBD.out]
                    by_cases e : i = x
                    · subst e; rw [if_pos rfl, s1, hsp, decide_eq_true (Nat.lt_succ_self _)]; simp
                    · rw [if_neg e]
                      by_cases e2 : i < x
                      · rw [decide_eq_true e2, decide_eq_true (by omega)]
                      · rw [decide_eq_false e2, decide_eq_false (by omega)]
                  have HN := Lib.hid hT
                  clear hT
                  clear s1 s2 s3 hsp
                  go_wp2
                  go_roundw
                  case rel => exact ⟨x + 1, by omega, by go_num, by rw [HN.out]; exact hrO, HX.out, hx0, hx1, hw⟩
                  case measure => simp [intOf]; omega
                | true =>
                  have hF := s2 hsp
                  have hcO := hrO.cell (j := p) (by rw [HTL.out]; omega)
                  have hcX := hrO.cell (j := x) (by rw [HTL.out]; exact hlt)
                  have hfX := hrO.frozen x
                  rw [HTN.out x p (by omega), if_pos hpx, ← hF] at hcO
                  have hcB := hrB2.cell hlt
                  have hfB := hrB2.free x
                  have hset := hrO.set (k := x) (by rw [HTL.out]; exact hlt) (F x)
                  rw [HTS.out x hlt] at hset
                  have hBO : gB ≠ gO := fun e => hOB e.symm
                  have HX : Hid (RowB (wz.setCell ⟨gB, x, none⟩ (.bool true)) gB ps.length (G (x + 1))) := hrB2.set x true fun i hi => by
                    rw [HBD.out, HBD.out]
                    by_cases e : i = x
                    · subst e; rw [if_pos rfl, s1, hsp, decide_eq_true (Nat.lt_succ_self _)]; simp
                    · rw [if_neg e, if_neg e]
                      by_cases e2 : i < x
                      · rw [decide_eq_true e2, decide_eq_true (by omega)]
                      · rw [decide_eq_false e2, decide_eq_false (by omega)]
                  have HO1 : Hid (∀ wy, wy = wz.setCell ⟨gB, x, none⟩ (.bool true) → Row (wy.setCell ⟨gO, x, none⟩ (.int .i64 (F x))) gO (T (x + 1))) := fun wy e => by
                    rw [e, ← HTS.out x hlt]; exact (hrO.far hOB x _).set (by rw [HTL.out]; exact hlt) (F x)
                  have HZ0 := Lib.hid (cell_far (g := gO) (u := .int .i64 (F x)) (cell_far (g := gB) (u := .bool true) hx0 (by simp; omega) x) (by simp; omega) x)
                  have HZ1 := Lib.hid (cell_far (g := gO) (u := .int .i64 (F x)) (cell_far (g := gB) (u := .bool true) hx1 (by simp; omega) x) (by simp; omega) x)
                  have HZ2 := Lib.hid (Below.setCell' (p := ⟨gO, x, none⟩) (Nat.le_of_lt hgO) (Below.setCell' (p := ⟨gB, x, none⟩) (Nat.le_of_lt hgB) hw (.bool true)) (.int .i64 (F x)))
                  clear hset hrO hrB2 s1 s2 s3 hsp hF
                  generalize F x = v9 at *
                  go_wp2
                  go_roundw
                  case rel => exact ⟨x + 1, by omega, by go_num, HO1.out _ rfl, HX.out.far hBO x _, HZ0.out, HZ1.out, HZ2.out⟩
                  case measure => simp [intOf]; omega
            · have hxe : x = ps.length := by omega
              have hxe2 : x = xs.length := by rw [← HPL.out]; exact hxe
              have HL := Lib.hid (show (T xs.length).length = ps.length from HTL.out _)
              rw [hxe2] at hrO
              clear HTS HTE HTN HS HTL
              go_wp2
              go_ret2
              exact ⟨_, _, by rw [HL.out]; rfl, .inr ⟨gO, rfl, by omega, hrO⟩, hw⟩
end Go.Proofs.Ytombfbmcplefgaa
