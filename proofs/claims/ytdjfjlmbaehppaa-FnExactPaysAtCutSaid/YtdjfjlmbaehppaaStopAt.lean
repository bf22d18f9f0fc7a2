/- Contracts: the node of a stopping on the way to an end. -/
import Derived.Test.YtdjfjlmbaehppaaOver
import Derived.Test.YtdjfjlmbaehppaaIsStop
import Derived.Test.YtdjfjlmbaehppaaAsc
namespace Go.Proofs.Ytdjfjlmbaehppaa
open Go.ChangeShapes Go.WideShapes Go.ChangeAt Go.RowKit

theorem end_wt {xs ys : List Int} (hg : good xs ys = true) {q : Nat} (hq : q < xs.length) : hasB (endsL xs) q = decide (nth ys q ≠ 0) := by
  have h1 := wt_end hg hq
  have h2 := good_wt hg q
  have h3 : decide (nth ys q ≠ 0) = decide (0 < nth ys q) := by
    by_cases h : nth ys q = 0
    · rw [decide_eq_false (by omega), decide_eq_false (by omega)]
    · rw [decide_eq_true h, decide_eq_true (by omega)]
  rw [h3, h1, Bool.eq_iff_iff, hasB_mem]
  unfold endsL
  rw [mem_pick]
  constructor
  · rintro ⟨x, h4, _, h5⟩
    have : q = x := by omega
    rw [this]; exact h5
  · intro h4; exact ⟨q, rfl, hq, h4⟩
theorem end_in {xs : List Int} {x : Int} (h : hasB (endsL xs) x = true) : ∃ q : Nat, x = q ∧ q < xs.length := by
  obtain ⟨j, hj, he⟩ := hasB_iff.1 h
  obtain ⟨y, h1, h2, _⟩ := ends_mem hj
  exact ⟨y, by omega, h2⟩
theorem stp_end {xs qs : List Int} (h : isStp xs qs = true) {q : Nat} (he : hasB (endsL xs) q = true) : (bothL qs (wayL xs q)).length = 1 := by
  obtain ⟨j, hj, hq⟩ := hasB_iff.1 he
  have := stp_on h j hj
  rw [hq, Int.toNat_natCast] at this; exact this
theorem ovU_some {ns : List Int} : ∀ {U : List Int}, (∃ v ∈ U, v ∈ ns) → ∃ i : Nat, ovU ns U = i ∧ i < ns.length ∧ nth ns i ∈ U
  | [], h => by obtain ⟨v, hv, _⟩ := h; simp at hv
  | a :: U, h => by
    rcases idxI_cases ns a with ⟨h1, h2⟩ | ⟨h1, i, h2, h3, h4, _⟩
    · have : ∃ v ∈ U, v ∈ ns := by
        obtain ⟨v, hv, hn⟩ := h
        rcases List.mem_cons.1 hv with rfl | hv
        · rw [hasB_mem.2 hn] at h1; cases h1
        · exact ⟨v, hv, hn⟩
      obtain ⟨i, h3, h4, h5⟩ := ovU_some this
      exact ⟨i, by unfold ovU; rw [if_neg (by omega)]; exact h3, h4, List.mem_cons_of_mem _ h5⟩
    · exact ⟨i, by unfold ovU; rw [if_pos (by omega)]; exact h2, h3, by rw [h4]; simp⟩
theorem mapI_nth (f : Int → Int) (E : List Int) {i : Nat} (h : i < E.length) : nth (mapI f E E.length) i = f (nth E i) := by
  rw [mapI_all]; simp [nth, List.getD, h]
theorem one_mem {L : List Int} {v : Int} (h : L.length = 1) (hv : v ∈ L) : nth L 0 = v := by
  obtain ⟨j, hj, he⟩ := mem_nth hv
  have : j = 0 := by omega
  rw [← he, this]
theorem sa_over {xs qs : List Int} (h : isStp xs qs = true) {q : Nat} (he : hasB (endsL xs) q = true) :
    ∃ i m : Nat, idxI (endsL xs) q = i ∧ i < (endsL xs).length ∧ nth (ovL xs qs) i = m ∧ m < qs.length ∧ nth qs m = nth (bothL qs (wayL xs q)) 0 := by
  have hone := stp_end h he
  rcases idxI_cases (endsL xs) q with ⟨h1, _⟩ | ⟨_, i, h2, h3, h4, _⟩
  · rw [he] at h1; cases h1
  · have hb : nth (bothL qs (wayL xs q)) 0 ∈ bothL qs (wayL xs q) := nth_mem (by omega)
    have hb2 := both_mem.1 hb
    obtain ⟨m, h5, h6, h7⟩ := ovU_some (ns := qs) (U := up xs q) ⟨_, List.mem_reverse.1 (show _ ∈ (up xs q).reverse from hb2.2), hb2.1⟩
    refine ⟨i, m, h2, h3, ?_, h6, ?_⟩
    · unfold ovL; rw [mapI_nth _ _ h3, h4]; unfold ovX; rw [Int.toNat_natCast]; exact h5
    · exact (one_mem hone (both_mem.2 ⟨nth_mem h6, List.mem_reverse.2 h7⟩)).symm
noncomputable def saOk (xs ys qs : List Int) (x : Int) : Bool := good xs ys && isNd xs.length x && isStp xs qs && decide (nth ys x.toNat ≠ 0)
noncomputable def saOk2 (xs ys qs : List Int) (x : Int) : Bool := good xs ys && isStp xs qs && hasB (endsL xs) x
noncomputable def saR (xs ys qs : List Int) (x : Int) : Int := if saOk xs ys qs x then nth (bothL qs (wayL xs x.toNat)) 0 else 0
noncomputable def saR2 (xs ys qs : List Int) (x : Int) : Int := if saOk2 xs ys qs x then nth (bothL qs (wayL xs x.toNat)) 0 else 0
theorem saR_no {xs ys qs : List Int} {x : Int} (h : saOk xs ys qs x = false) : saR xs ys qs x = 0 := by unfold saR; rw [h]; rfl
theorem saR_yes {xs ys qs : List Int} {x : Int} (h : saOk xs ys qs x = true) : saR xs ys qs x = nth (bothL qs (wayL xs x.toNat)) 0 := by unfold saR; rw [h]; rfl
theorem saR2_no {xs ys qs : List Int} {x : Int} (h : saOk2 xs ys qs x = false) : saR2 xs ys qs x = 0 := by unfold saR2; rw [h]; rfl
theorem saR2_yes {xs ys qs : List Int} {x : Int} (h : saOk2 xs ys qs x = true) : saR2 xs ys qs x = nth (bothL qs (wayL xs x.toNat)) 0 := by unfold saR2; rw [h]; rfl
theorem nd_of {n : Nat} {q : Nat} (h : q < n) : isNd n q = true := by unfold isNd; simp; omega
theorem of_nd {n : Nat} {x : Int} (h : isNd n x = true) : ∃ q : Nat, x = q ∧ q < n := by
  unfold isNd at h; simp at h; exact ⟨x.toNat, by omega, by omega⟩
theorem sa_same (xs ys qs : List Int) (x : Int) : saOk2 xs ys qs x = saOk xs ys qs x := by
  unfold saOk saOk2
  cases hg : good xs ys with
  | false => rfl
  | true =>
    simp only [Bool.true_and]
    by_cases hx : isNd xs.length x = true
    · obtain ⟨q, rfl, hq⟩ := of_nd hx
      rw [hx, end_wt hg hq]; simp
    · have h1 : isNd xs.length x = false := by simpa using hx
      rw [h1]
      have h2 : hasB (endsL xs) x = false := by
        cases he : hasB (endsL xs) x with
        | false => rfl
        | true => obtain ⟨q, rfl, hq⟩ := end_in he; rw [nd_of hq] at h1; cases h1
      rw [h2]; simp
theorem saR_same (xs ys qs : List Int) (x : Int) : saR2 xs ys qs x = saR xs ys qs x := by unfold saR saR2; rw [sa_same]
set_option maxHeartbeats 1000000 in
set_option maxRecDepth 100000 in
theorem specStopAt_any (A B : Option Addr) (c e : Nat) (xs ys : List Int) (Q : Option Addr) (cq : Nat) (qs : List Int) (u9 : Int) (w : World) (h : IntS w A xs) (k : IntS w B ys) (zq : IntS w Q qs) (_hx : Bd xs) (_hy : Bd ys) (_bq : Bd qs) (_hu9 : -9223372036854775808 ≤ u9 ∧ u9 ≤ 9223372036854775807) (hn : xs.length ≤ 1048576) (hm : ys.length ≤ 1048576) (lq : qs.length ≤ 1048576) :
    Calls Try.prog 46 #[.agg #[.slice A xs.length c, .slice B ys.length e], .slice Q qs.length cq, .int .i64 u9] w (fun e1 w' => e1 = .returned (.tuple #[.int .i64 (saR xs ys qs u9), .bool (saOk xs ys qs u9)]) ∧ Below w.heap.size w w') := by
  obtain ⟨r1, q1⟩ : ∃ r, (good xs ys && isNd xs.length u9) = r := ⟨_, rfl⟩
  cases r1
  case false =>
    have hO : saOk xs ys qs u9 = false := by unfold saOk ; simp [q1]
    have hV_saR := saR_no hO
    rw [hV_saR]
    (try rw [hO])
    clear hO hV_saR
    have HG1 := Lib.hid (fun W (h : IntS W A xs) (k : IntS W B ys) => l2Node_any A B c e xs ys u9 W h k _hx _hy hn hm)
    rw [q1] at HG1
    clear q1 _hx _hy _bq
    go_enter Try.func46, Try.ntmps46
    go_wp2_with fail
    refine (HG1.out _ (h.alloc _) (k.alloc _)).mono ?_
    rintro e1 w1 ⟨rfl, hb⟩
    have hx0 : w1.cell? ⟨w.heap.size, 0, none⟩ = some (.slice A xs.length c) := keep_cell hb (by simp)
    have hx1 : w1.cell? ⟨w.heap.size, 1, none⟩ = some (.slice B ys.length e) := keep_cell hb (by simp)
    have hw : Below w.heap.size w w1 := below_alloc (hb)
    clear hb
    (try (obtain ⟨b9, o9, rfl, hc9⟩ := (k.below hw).at_ (j := q) hqy; rw [HV0.out] at hc9))
    go_wp2
    go_ret2
    exact ⟨rfl, hw⟩
  case true =>
    obtain ⟨r2, q2⟩ : ∃ r, (isStp xs qs) = r := ⟨_, rfl⟩
    cases r2
    case false =>
      have hO : saOk xs ys qs u9 = false := by unfold saOk ; simp [q1, q2]
      have hV_saR := saR_no hO
      rw [hV_saR]
      (try rw [hO])
      clear hO hV_saR
      have HG1 := Lib.hid (fun W (h : IntS W A xs) (k : IntS W B ys) => l2Node_any A B c e xs ys u9 W h k _hx _hy hn hm)
      rw [q1] at HG1
      have HG2 := Lib.hid (fun W (h : IntS W A xs) (zq : IntS W Q qs) => l3Stop_good (Bool.and_eq_true_iff.1 q1).1 A B Q c e cq qs W h zq lq)
      rw [q2] at HG2
      clear q1 q2 _hx _hy _bq
      go_enter Try.func46, Try.ntmps46
      go_wp2_with fail
      refine (HG1.out _ (h.alloc _) (k.alloc _)).mono ?_
      rintro e1 w1 ⟨rfl, hb⟩
      have hx0 : w1.cell? ⟨w.heap.size, 0, none⟩ = some (.slice A xs.length c) := keep_cell hb (by simp)
      have hx1 : w1.cell? ⟨w.heap.size, 1, none⟩ = some (.slice B ys.length e) := keep_cell hb (by simp)
      have hw : Below w.heap.size w w1 := below_alloc (hb)
      clear hb
      go_wp2_with fail
      refine (HG2.out _ (h.below hw) (zq.below hw)).mono ?_
      rintro e1 w2 ⟨rfl, hb⟩
      replace hx0 := keep_cell hb hx0
      replace hx1 := keep_cell hb hx1
      replace hw := keep_below hb hw
      clear hb
      (try (obtain ⟨b9, o9, rfl, hc9⟩ := (k.below hw).at_ (j := q) hqy; rw [HV0.out] at hc9))
      go_wp2
      go_ret2
      exact ⟨rfl, hw⟩
    case true =>
      obtain ⟨r3, q3⟩ : ∃ r, (decide (nth ys u9.toNat ≠ 0)) = r := ⟨_, rfl⟩
      cases r3
      case false =>
        have hO : saOk xs ys qs u9 = false := by unfold saOk ; simp [q1, q2, q3]
        have hV_saR := saR_no hO
        rw [hV_saR]
        (try rw [hO])
        clear hO hV_saR
        have HG1 := Lib.hid (fun W (h : IntS W A xs) (k : IntS W B ys) => l2Node_any A B c e xs ys u9 W h k _hx _hy hn hm)
        rw [q1] at HG1
        have HG2 := Lib.hid (fun W (h : IntS W A xs) (zq : IntS W Q qs) => l3Stop_good (Bool.and_eq_true_iff.1 q1).1 A B Q c e cq qs W h zq lq)
        rw [q2] at HG2
        obtain ⟨q, rfl, hq⟩ := of_nd (Bool.and_eq_true_iff.1 q1).2
        rw [Int.toNat_natCast] at q3
        have hqy : q < ys.length := by have := (good_len (Bool.and_eq_true_iff.1 q1).1).2.2; omega
        have iq : (q : Int) < ys.length := by omega
        have hv0 : nth ys q = 0 := by simpa using q3
        have HV0 := Lib.hid hv0
        clear hv0
        clear q1 q2 q3 _hx _hy _bq
        go_enter Try.func46, Try.ntmps46
        go_wp2_with fail
        refine (HG1.out _ (h.alloc _) (k.alloc _)).mono ?_
        rintro e1 w1 ⟨rfl, hb⟩
        have hx0 : w1.cell? ⟨w.heap.size, 0, none⟩ = some (.slice A xs.length c) := keep_cell hb (by simp)
        have hx1 : w1.cell? ⟨w.heap.size, 1, none⟩ = some (.slice B ys.length e) := keep_cell hb (by simp)
        have hw : Below w.heap.size w w1 := below_alloc (hb)
        clear hb
        go_wp2_with fail
        refine (HG2.out _ (h.below hw) (zq.below hw)).mono ?_
        rintro e1 w2 ⟨rfl, hb⟩
        replace hx0 := keep_cell hb hx0
        replace hx1 := keep_cell hb hx1
        replace hw := keep_below hb hw
        clear hb
        (try (obtain ⟨b9, o9, rfl, hc9⟩ := (k.below hw).at_ (j := q) hqy; rw [HV0.out] at hc9))
        go_wp2
        go_ret2
        exact ⟨rfl, hw⟩
      case true =>
        have hO : saOk xs ys qs u9 = true := by unfold saOk ; simp [q1, q2, q3]
        have hV_saR := saR_yes hO
        rw [hV_saR]
        (try rw [hO])
        clear hO hV_saR
        have HG1 := Lib.hid (fun W (h : IntS W A xs) (k : IntS W B ys) => l2Node_any A B c e xs ys u9 W h k _hx _hy hn hm)
        rw [q1] at HG1
        have HG2 := Lib.hid (fun W (h : IntS W A xs) (zq : IntS W Q qs) => l3Stop_good (Bool.and_eq_true_iff.1 q1).1 A B Q c e cq qs W h zq lq)
        rw [q2] at HG2
        obtain ⟨q, rfl, hq⟩ := of_nd (Bool.and_eq_true_iff.1 q1).2
        rw [Int.toNat_natCast] at q3
        have hqy : q < ys.length := by have := (good_len (Bool.and_eq_true_iff.1 q1).1).2.2; omega
        have iq : (q : Int) < ys.length := by omega
        have hv1 : nth ys q ≠ 0 := by simpa using q3
        have hd1 : decide (nth ys q = 0) = false := decide_eq_false hv1
        have hd2 : (nth ys q == 0) = false := by simpa using hv1
        have hen : hasB (endsL xs) q = true := by rw [end_wt (Bool.and_eq_true_iff.1 q1).1 hq]; exact decide_eq_true hv1
        have HOn := Lib.hid (fun W (h : IntS W A xs) (zq : IntS W Q qs) => l3On_any (Bool.and_eq_true_iff.1 q1).1 A B Q c ys.length e cq q qs W h zq hq lq)
        have hK := stp_end q2 hen
        rw [Int.toNat_natCast]
        have hK1 : 1 ≤ (bothL qs (wayL xs q)).length := by omega
        have hK0 : 0 < (bothL qs (wayL xs q)).length := by omega
        generalize bothL qs (wayL xs q) = K at *
        clear hK hen hv1
        clear q1 q2 q3 _hx _hy _bq
        go_enter Try.func46, Try.ntmps46
        go_wp2_with fail
        refine (HG1.out _ (h.alloc _) (k.alloc _)).mono ?_
        rintro e1 w1 ⟨rfl, hb⟩
        have hx0 : w1.cell? ⟨w.heap.size, 0, none⟩ = some (.slice A xs.length c) := keep_cell hb (by simp)
        have hx1 : w1.cell? ⟨w.heap.size, 1, none⟩ = some (.slice B ys.length e) := keep_cell hb (by simp)
        have hw : Below w.heap.size w w1 := below_alloc (hb)
        clear hb
        go_wp2_with fail
        refine (HG2.out _ (h.below hw) (zq.below hw)).mono ?_
        rintro e1 w2 ⟨rfl, hb⟩
        replace hx0 := keep_cell hb hx0
        replace hx1 := keep_cell hb hx1
        replace hw := keep_below hb hw
        clear hb
        clear HG1 HG2
        obtain ⟨b9, o9, rfl, hc9⟩ := (k.below hw).at_ (j := q) hqy
        generalize nth ys q = v9 at *
        go_wp2_with fail
        refine (HOn.out _ (h.below hw) (zq.below hw)).mono ?_
        rintro e1 w9 ⟨A1, c1, rfl, ho, hb⟩
        obtain ⟨gK, rfl, _, hrK⟩ := ho.pos hK1
        have hcK := hrK.cell (j := 0) hK0
        clear ho
        go_wp2
        go_ret2
        exact ⟨rfl, keep_below hb hw⟩
set_option maxHeartbeats 1000000 in
set_option maxRecDepth 100000 in
theorem implStopAt_two (A B : Option Addr) (c e : Nat) (xs ys : List Int) (Q : Option Addr) (cq : Nat) (qs : List Int) (u9 : Int) (w : World) (h : IntS w A xs) (k : IntS w B ys) (zq : IntS w Q qs) (_hx : Bd xs) (_hy : Bd ys) (_bq : Bd qs) (_hu9 : -9223372036854775808 ≤ u9 ∧ u9 ≤ 9223372036854775807) (hn : xs.length ≤ 1048576) (hm : ys.length ≤ 1048576) (lq : qs.length ≤ 1048576) :
    Calls Try.prog 47 #[.agg #[.slice A xs.length c, .slice B ys.length e], .slice Q qs.length cq, .int .i64 u9] w (fun e1 w' => e1 = .returned (.tuple #[.int .i64 (saR2 xs ys qs u9), .bool (saOk2 xs ys qs u9)]) ∧ Below w.heap.size w w') := by
  obtain ⟨r1, q1⟩ : ∃ r, (good xs ys) = r := ⟨_, rfl⟩
  cases r1
  case false =>
    have hO : saOk2 xs ys qs u9 = false := by unfold saOk2 ; simp [q1]
    have hV_saR2 := saR2_no hO
    rw [hV_saR2]
    (try rw [hO])
    clear hO hV_saR2
    have HG1 := Lib.hid (fun W (h : IntS W A xs) (k : IntS W B ys) => isTree_any A B c e xs ys W h k _hx _hy hn hm)
    rw [q1] at HG1
    clear q1 _hx _hy _bq
    go_enter Try.func47, Try.ntmps47
    go_wp2_with fail
    refine (HG1.out _ (h.alloc _) (k.alloc _)).mono ?_
    rintro e1 w1 ⟨rfl, hb⟩
    have hx0 : w1.cell? ⟨w.heap.size, 0, none⟩ = some (.slice A xs.length c) := keep_cell hb (by simp)
    have hx1 : w1.cell? ⟨w.heap.size, 1, none⟩ = some (.slice B ys.length e) := keep_cell hb (by simp)
    have hw : Below w.heap.size w w1 := below_alloc (hb)
    clear hb
    first
      | (go_wp2_with fail; refine (HE.out _ (h.below hw)).mono ?_; rintro e1 w8 ⟨A8, c8, rfl, ho8, hb8⟩; have hI8 := ho8.ints; replace hw := keep_below hb8 hw; replace hx0 := keep_cell hb8 hx0; replace hx1 := keep_cell hb8 hx1; clear ho8 hb8; go_wp2_with fail; refine (HI.out _ _ _ hI8).mono ?_; rintro e1 w7 ⟨rfl, rfl⟩; go_wp2; go_ret2; exact ⟨rfl, hw⟩)
      | (go_wp2; go_ret2; exact ⟨rfl, hw⟩)
  case true =>
    obtain ⟨r2, q2⟩ : ∃ r, (isStp xs qs) = r := ⟨_, rfl⟩
    cases r2
    case false =>
      have hO : saOk2 xs ys qs u9 = false := by unfold saOk2 ; simp [q1, q2]
      have hV_saR2 := saR2_no hO
      rw [hV_saR2]
      (try rw [hO])
      clear hO hV_saR2
      have HG1 := Lib.hid (fun W (h : IntS W A xs) (k : IntS W B ys) => isTree_any A B c e xs ys W h k _hx _hy hn hm)
      rw [q1] at HG1
      have HG2 := Lib.hid (fun W (h : IntS W A xs) (zq : IntS W Q qs) => isStopping_good q1 A B Q c ys.length e cq qs W h zq lq)
      rw [q2] at HG2
      clear q1 q2 _hx _hy _bq
      go_enter Try.func47, Try.ntmps47
      go_wp2_with fail
      refine (HG1.out _ (h.alloc _) (k.alloc _)).mono ?_
      rintro e1 w1 ⟨rfl, hb⟩
      have hx0 : w1.cell? ⟨w.heap.size, 0, none⟩ = some (.slice A xs.length c) := keep_cell hb (by simp)
      have hx1 : w1.cell? ⟨w.heap.size, 1, none⟩ = some (.slice B ys.length e) := keep_cell hb (by simp)
      have hw : Below w.heap.size w w1 := below_alloc (hb)
      clear hb
      go_wp2_with fail
      refine (HG2.out _ (h.below hw) (zq.below hw)).mono ?_
      rintro e1 w2 ⟨rfl, hb⟩
      replace hx0 := keep_cell hb hx0
      replace hx1 := keep_cell hb hx1
      replace hw := keep_below hb hw
      clear hb
      first
        | (go_wp2_with fail; refine (HE.out _ (h.below hw)).mono ?_; rintro e1 w8 ⟨A8, c8, rfl, ho8, hb8⟩; have hI8 := ho8.ints; replace hw := keep_below hb8 hw; replace hx0 := keep_cell hb8 hx0; replace hx1 := keep_cell hb8 hx1; clear ho8 hb8; go_wp2_with fail; refine (HI.out _ _ _ hI8).mono ?_; rintro e1 w7 ⟨rfl, rfl⟩; go_wp2; go_ret2; exact ⟨rfl, hw⟩)
        | (go_wp2; go_ret2; exact ⟨rfl, hw⟩)
    case true =>
      obtain ⟨r3, q3⟩ : ∃ r, (hasB (endsL xs) u9) = r := ⟨_, rfl⟩
      cases r3
      case false =>
        have hO : saOk2 xs ys qs u9 = false := by unfold saOk2 ; simp [q1, q2, q3]
        have hV_saR2 := saR2_no hO
        rw [hV_saR2]
        (try rw [hO])
        clear hO hV_saR2
        have HG1 := Lib.hid (fun W (h : IntS W A xs) (k : IntS W B ys) => isTree_any A B c e xs ys W h k _hx _hy hn hm)
        rw [q1] at HG1
        have HG2 := Lib.hid (fun W (h : IntS W A xs) (zq : IntS W Q qs) => isStopping_good q1 A B Q c ys.length e cq qs W h zq lq)
        rw [q2] at HG2
        have HE := Lib.hid (fun W (h : IntS W A xs) => ends_any A B c ys.length e xs W h (by have := good_len q1; omega) (good_iff.1 q1).2.1 (good_root q1))
        have hel := ends_len xs
        have HI0 := fun (W : World) (P9 : Option Addr) (c9 : Nat) (h9 : IntS W P9 (endsL xs)) => index_any P9 c9 (endsL xs) u9 W h9 (by omega)
        have hi9 : idxI (endsL xs) u9 = -1 := by
          rcases idxI_cases (endsL xs) u9 with ⟨_, h⟩ | ⟨h, _⟩
          · exact h
          · rw [q3] at h; cases h
        rw [hi9] at HI0
        have HI := Lib.hid HI0
        clear HI0 hi9 hel
        generalize endsL xs = E at *
        clear q1 q2 q3 _hx _hy _bq
        go_enter Try.func47, Try.ntmps47
        go_wp2_with fail
        refine (HG1.out _ (h.alloc _) (k.alloc _)).mono ?_
        rintro e1 w1 ⟨rfl, hb⟩
        have hx0 : w1.cell? ⟨w.heap.size, 0, none⟩ = some (.slice A xs.length c) := keep_cell hb (by simp)
        have hx1 : w1.cell? ⟨w.heap.size, 1, none⟩ = some (.slice B ys.length e) := keep_cell hb (by simp)
        have hw : Below w.heap.size w w1 := below_alloc (hb)
        clear hb
        go_wp2_with fail
        refine (HG2.out _ (h.below hw) (zq.below hw)).mono ?_
        rintro e1 w2 ⟨rfl, hb⟩
        replace hx0 := keep_cell hb hx0
        replace hx1 := keep_cell hb hx1
        replace hw := keep_below hb hw
        clear hb
        first
          | (go_wp2_with fail; refine (HE.out _ (h.below hw)).mono ?_; rintro e1 w8 ⟨A8, c8, rfl, ho8, hb8⟩; have hI8 := ho8.ints; replace hw := keep_below hb8 hw; replace hx0 := keep_cell hb8 hx0; replace hx1 := keep_cell hb8 hx1; clear ho8 hb8; go_wp2_with fail; refine (HI.out _ _ _ hI8).mono ?_; rintro e1 w7 ⟨rfl, rfl⟩; go_wp2; go_ret2; exact ⟨rfl, hw⟩)
          | (go_wp2; go_ret2; exact ⟨rfl, hw⟩)
      case true =>
        have hO : saOk2 xs ys qs u9 = true := by unfold saOk2 ; simp [q1, q2, q3]
        have hV_saR2 := saR2_yes hO
        rw [hV_saR2]
        (try rw [hO])
        clear hO hV_saR2
        have HG1 := Lib.hid (fun W (h : IntS W A xs) (k : IntS W B ys) => isTree_any A B c e xs ys W h k _hx _hy hn hm)
        rw [q1] at HG1
        have HG2 := Lib.hid (fun W (h : IntS W A xs) (zq : IntS W Q qs) => isStopping_good q1 A B Q c ys.length e cq qs W h zq lq)
        rw [q2] at HG2
        have HE := Lib.hid (fun W (h : IntS W A xs) => ends_any A B c ys.length e xs W h (by have := good_len q1; omega) (good_iff.1 q1).2.1 (good_root q1))
        have hel := ends_len xs
        have HI0 := fun (W : World) (P9 : Option Addr) (c9 : Nat) (h9 : IntS W P9 (endsL xs)) => index_any P9 c9 (endsL xs) u9 W h9 (by omega)
        obtain ⟨q, rfl, hq⟩ := end_in q3
        obtain ⟨i, m, hi1, hi2, hi3, hi4, hi5⟩ := sa_over q2 q3
        have hol := ovL_len xs qs
        have HOv := Lib.hid (fun W (h : IntS W A xs) (zq : IntS W Q qs) => over_good q1 A B Q c e cq qs W h zq (by omega))
        rw [hi1] at HI0
        have HI := Lib.hid HI0
        have iR : i < (ovL xs qs).length := by omega
        have HR := Lib.hid hi3
        have HQ := Lib.hid hi5
        have i2 : (i : Int) < (ovL xs qs).length := by omega
        have i3 : (m : Int) < qs.length := by omega
        have hR1 : 1 ≤ (ovL xs qs).length := by omega
        clear HI0 hi1 hi2 hi3 hi5 hel hol
        rw [Int.toNat_natCast]
        generalize nth (bothL qs (wayL xs q)) 0 = v at *
        generalize ovL xs qs = R at *
        generalize endsL xs = E at *
        clear q1 q2 q3 _hx _hy _bq
        go_enter Try.func47, Try.ntmps47
        go_wp2_with fail
        refine (HG1.out _ (h.alloc _) (k.alloc _)).mono ?_
        rintro e1 w1 ⟨rfl, hb⟩
        have hx0 : w1.cell? ⟨w.heap.size, 0, none⟩ = some (.slice A xs.length c) := keep_cell hb (by simp)
        have hx1 : w1.cell? ⟨w.heap.size, 1, none⟩ = some (.slice B ys.length e) := keep_cell hb (by simp)
        have hw : Below w.heap.size w w1 := below_alloc (hb)
        clear hb
        go_wp2_with fail
        refine (HG2.out _ (h.below hw) (zq.below hw)).mono ?_
        rintro e1 w2 ⟨rfl, hb⟩
        replace hx0 := keep_cell hb hx0
        replace hx1 := keep_cell hb hx1
        replace hw := keep_below hb hw
        clear hb
        clear HG1 HG2
        go_wp2_with fail
        refine (HE.out _ (h.below hw)).mono ?_
        rintro e1 w8 ⟨A8, c8, rfl, ho8, hb8⟩
        have hI8 := ho8.ints
        replace hw := keep_below hb8 hw
        replace hx0 := keep_cell hb8 hx0
        replace hx1 := keep_cell hb8 hx1
        clear ho8 hb8
        go_wp2_with fail
        refine (HI.out _ _ _ hI8).mono ?_
        rintro e1 w7 ⟨rfl, rfl⟩
        go_wp2_with fail
        refine (HOv.out _ (h.below hw) (zq.below hw)).mono ?_
        rintro e1 w6 ⟨A6, c6, rfl, ho6, hb6⟩
        obtain ⟨gR, rfl, _, hrR⟩ := ho6.pos hR1
        have hcR := hrR.cell iR
        rw [HR.out] at hcR
        replace hw := keep_below hb6 hw
        obtain ⟨b9, o9, rfl, hc9⟩ := (zq.below hw).at_ (j := m) hi4
        rw [HQ.out] at hc9
        clear ho6 hb6
        go_wp2
        go_ret2
        exact ⟨rfl, hw⟩
theorem implStopAt_any (A B : Option Addr) (c e : Nat) (xs ys : List Int) (Q : Option Addr) (cq : Nat) (qs : List Int) (u9 : Int) (w : World) (h : IntS w A xs) (k : IntS w B ys) (zq : IntS w Q qs) (_hx : Bd xs) (_hy : Bd ys) (_bq : Bd qs) (_hu9 : -9223372036854775808 ≤ u9 ∧ u9 ≤ 9223372036854775807) (hn : xs.length ≤ 1048576) (hm : ys.length ≤ 1048576) (lq : qs.length ≤ 1048576) :
    Calls Try.prog 47 #[.agg #[.slice A xs.length c, .slice B ys.length e], .slice Q qs.length cq, .int .i64 u9] w (fun e1 w' => e1 = .returned (.tuple #[.int .i64 (saR xs ys qs u9), .bool (saOk xs ys qs u9)]) ∧ Below w.heap.size w w') := by
  have := implStopAt_two A B c e xs ys Q cq qs u9 w h k zq _hx _hy _bq _hu9 hn hm lq
  rw [saR_same, sa_same] at this
  exact this
end Go.Proofs.Ytdjfjlmbaehppaa
