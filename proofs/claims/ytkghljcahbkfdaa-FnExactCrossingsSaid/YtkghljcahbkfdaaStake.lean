/- Contracts: the gains of stakes. -/
import Derived.Test.YtkghljcahbkfdaaSums3
import Derived.Test.YtkghljcahbkfdaaFrac6
import Derived.Test.YtkghljcahbkfdaaApp
import Derived.IntWalk
namespace Go.Proofs.Ytkghljcahbkfdaa
open Go.ChangeShapes Go.WideShapes Go.ChangeAt Go.RowKit

theorem allIn_nth {zs : List Int} {lo hi : Int} (h : allIn zs lo hi = true) (h0 : lo ≤ 0 ∧ 0 ≤ hi) (j : Nat) : lo ≤ nth zs j ∧ nth zs j ≤ hi := by
  by_cases hj : j < zs.length
  · exact allIn_iff.1 h j hj
  · rw [nth_out (by omega)]; exact h0
theorem isProc_iff {n : Nat} {zs : List Int} (h : isProc n zs = true) : zs.length = n ∧ ∀ j, -999 ≤ nth zs j ∧ nth zs j ≤ 999 := by
  unfold isProc at h
  rw [Bool.and_eq_true] at h
  exact ⟨of_decide_eq_true h.1, allIn_nth h.2 (by omega)⟩
/-- Stakes of a tree with n nodes. -/
def isStk (n : Nat) (zs : List Int) : Bool := decide (zs.length = n) && allIn zs (-20) 20
theorem isStk_iff {n : Nat} {zs : List Int} (h : isStk n zs = true) : zs.length = n ∧ ∀ j, -20 ≤ nth zs j ∧ nth zs j ≤ 20 := by
  unfold isStk at h
  rw [Bool.and_eq_true] at h
  exact ⟨of_decide_eq_true h.1, allIn_nth h.2 (by omega)⟩
/-- The gains at the first k nodes. -/
def stkG (xs ps ss : List Int) : Nat → List Int
  | 0 => []
  | 1 => [0]
  | k + 1 => stkG xs ps ss k ++ [nth (stkG xs ps ss k) (nth xs k).toNat + nth ss (nth xs k).toNat * (nth ps k - nth ps (nth xs k).toNat)]
theorem stkG_succ (xs ps ss : List Int) {k : Nat} (hk : 1 ≤ k) : stkG xs ps ss (k + 1) = stkG xs ps ss k ++ [nth (stkG xs ps ss k) (nth xs k).toNat + nth ss (nth xs k).toNat * (nth ps k - nth ps (nth xs k).toNat)] := by
  cases k with
  | zero => omega
  | succ k => rfl
theorem stkG_len (xs ps ss : List Int) (k : Nat) : (stkG xs ps ss k).length = k := by
  induction k with
  | zero => rfl
  | succ k ih =>
    cases k with
    | zero => rfl
    | succ k => rw [stkG_succ _ _ _ (by omega)]; simp [ih]
theorem stk_mul {s a b : Int} (hs : -20 ≤ s ∧ s ≤ 20) (ha : -999 ≤ a ∧ a ≤ 999) (hb : -999 ≤ b ∧ b ≤ 999) : -39960 ≤ s * (a - b) ∧ s * (a - b) ≤ 39960 :=
  mul_bd (A := 20) (D := 1998) (by omega) (by omega)
theorem stkG_bd (xs : List Int) {ps ss : List Int} (hp : ∀ j, -999 ≤ nth ps j ∧ nth ps j ≤ 999) (hs : ∀ j, -20 ≤ nth ss j ∧ nth ss j ≤ 20) (k j : Nat) : -(39960 * (k : Int)) ≤ nth (stkG xs ps ss k) j ∧ nth (stkG xs ps ss k) j ≤ 39960 * (k : Int) := by
  induction k generalizing j with
  | zero => simp [stkG, nth]
  | succ k ih =>
    cases k with
    | zero =>
      have h0 : nth (stkG xs ps ss (0 + 1)) j = 0 := by
        show nth [0] j = 0
        unfold nth List.getD; cases j <;> simp
      omega
    | succ k =>
      rw [stkG_succ _ _ _ (by omega)]
      rcases Nat.lt_trichotomy j (k + 1) with h | h | h
      · rw [nth_app_lt (by rw [stkG_len]; exact h)]; have := ih j; omega
      · subst h
        have e : (stkG xs ps ss (k + 1)).length = k + 1 := stkG_len _ _ _ _
        have := nth_app_eq (L := stkG xs ps ss (k + 1)) (a := nth (stkG xs ps ss (k + 1)) (nth xs (k + 1)).toNat + nth ss (nth xs (k + 1)).toNat * (nth ps (k + 1) - nth ps (nth xs (k + 1)).toNat))
        rw [e] at this
        rw [this]; have := ih (nth xs (k + 1)).toNat; have := stk_mul (hs (nth xs (k + 1)).toNat) (hp (k + 1)) (hp (nth xs (k + 1)).toNat); omega
      · rw [nth_out (by simp [stkG_len]; omega)]; omega

theorem allWithin_b (A : Option Addr) (c : Nat) (zs : List Int) (lo hi : Int) (w : World) (h : IntS w A zs) (hn : zs.length ≤ 1048576) :
    Calls Try.prog 67 #[.slice A zs.length c, .int .i64 lo, .int .i64 hi] w fun e w' => e = .returned (.bool (allIn zs lo hi)) ∧ Below w.heap.size w w' :=
  (allWithin_any A c zs lo hi w h (by unfold maxLen; omega)).mono fun _ _ ⟨he, hw⟩ => ⟨he, by rw [← hw]; exact Below.refl _ _⟩
set_option maxHeartbeats 1000000 in
theorem l3Stakes_any (A B P : Option Addr) (n c m e cz : Nat) (zs : List Int) (w : World) (z : IntS w P zs) (hn : n ≤ 1048576) (hz : zs.length ≤ 1048576) :
    Calls Try.prog 65 #[.agg #[.slice A n c, .slice B m e], .slice P zs.length cz] w fun e1 w' => e1 = .returned (.bool (isStk n zs)) ∧ Below w.heap.size w w' := by
  generalize hr : isStk n zs = r
  have HR := Lib.hid hr
  clear hr
  go_enter Try.func65, Try.ntmps65
  go_wp2
  go_loop [5] (fun i => ∃ k : Nat, k ≤ zs.length ∧ i = .int .i64 k ∧ Hid (∀ j, j < k → -20 ≤ nth zs j ∧ nth zs j ≤ 20)) (fun i => zs.length - (intOf i).toNat)
  case atStart => exact ⟨0, Nat.zero_le _, rfl, fun j hj => by omega⟩
  case round =>
    obtain ⟨j, hj, rfl, HA⟩ := hrel
    by_cases hlt : j < zs.length
    · obtain ⟨b, o, rfl, hc⟩ := z.at_ (j := j) hlt
      have hb : b < w.heap.size := World.block_lt_of_cell? w _ hc
      by_cases hzj : -20 ≤ nth zs j ∧ nth zs j ≤ 20
      · have HA' : Hid (∀ q, q < j + 1 → -20 ≤ nth zs q ∧ nth zs q ≤ 20) := fun q hq => by
          by_cases e : q = j
          · subst e; exact hzj
          · exact HA.out q (by omega)
        go_wp2_with (go_at_call 79; refine (l1In_yes _ _ _ _ hzj.1 hzj.2).mono ?_; rintro e w' ⟨rfl, rfl⟩)
        go_round
        case rel => exact ⟨j + 1, by omega, by go_num, HA'⟩
        case measure => simp [intOf]; omega
      · have hr : r = false := by rw [← HR.out]; unfold isStk; rw [allIn_no hlt hzj]; simp
        subst hr
        go_wp2_with (go_at_call 79; refine (l1In_no _ _ _ _ hzj).mono ?_; rintro e w' ⟨rfl, rfl⟩)
        go_ret
        exact ⟨rfl, by (repeat (first | with_reducible exact Below.refl _ _ | with_reducible assumption | with_reducible refine Below.alloc' ?_ ?_ _ | with_reducible refine Below.setCell' ?_ ?_ _ | with_reducible refine Below.drewN' ?_ _ | with_reducible refine Below.drew ?_ | with_reducible refine Below.transA ?_ (by assumption) ?_ | omega | (focus (simp; done)) | (focus (simp; omega))))⟩
    · have hall : allIn zs (-20) 20 = true := allIn_yes fun q hq => HA.out q (by omega)
      have HR' : Hid (decide (zs.length = n) = r) := by
        have := HR.out; unfold isStk at this; rw [hall] at this; show _ = _; simpa using this
      clear HR HA hall
      by_cases hl : zs.length = n
      · have hr : r = true := by rw [← HR'.out]; simp [hl]
        subst hr
        have hd : ((zs.length : Int) == (n : Int)) = true := by simp; omega
        clear hl
        go_wp2
        go_ret
        exact ⟨rfl, by (repeat (first | with_reducible exact Below.refl _ _ | with_reducible assumption | with_reducible refine Below.alloc' ?_ ?_ _ | with_reducible refine Below.setCell' ?_ ?_ _ | with_reducible refine Below.drewN' ?_ _ | with_reducible refine Below.drew ?_ | with_reducible refine Below.transA ?_ (by assumption) ?_ | omega | (focus (simp; done)) | (focus (simp; omega))))⟩
      · have hr : r = false := by rw [← HR'.out]; simp [hl]
        subst hr
        have hd : ((zs.length : Int) == (n : Int)) = false := by simp; omega
        clear hl
        go_wp2
        go_ret
        exact ⟨rfl, by (repeat (first | with_reducible exact Below.refl _ _ | with_reducible assumption | with_reducible refine Below.alloc' ?_ ?_ _ | with_reducible refine Below.setCell' ?_ ?_ _ | with_reducible refine Below.drewN' ?_ _ | with_reducible refine Below.drew ?_ | with_reducible refine Below.transA ?_ (by assumption) ?_ | omega | (focus (simp; done)) | (focus (simp; omega))))⟩
noncomputable def stkOk (xs ys ps qs : List Int) : Bool := good xs ys && isProc xs.length ps && isStk xs.length qs
noncomputable def stkR (xs ys ps qs : List Int) : List Int := if stkOk xs ys ps qs then stkG xs ps qs xs.length else []
theorem stkR_no {xs ys ps qs : List Int} (h : stkOk xs ys ps qs = false) : stkR xs ys ps qs = [] := by unfold stkR; rw [h]; rfl
theorem stkR_yes {xs ys ps qs : List Int} (h : stkOk xs ys ps qs = true) : stkR xs ys ps qs = stkG xs ps qs xs.length := by unfold stkR; rw [h]; rfl
theorem stkR_len (xs ys ps qs : List Int) (hn : xs.length ≤ 1048576) : (stkR xs ys ps qs).length ≤ 2000000 := by
  unfold stkR; split
  · rw [stkG_len]; omega
  · simp
set_option maxHeartbeats 1000000 in
set_option maxRecDepth 100000 in
theorem specStakeGains_any (A B : Option Addr) (c e : Nat) (xs ys : List Int) (P : Option Addr) (cp : Nat) (ps : List Int) (Q : Option Addr) (cq : Nat) (qs : List Int) (w : World) (h : IntS w A xs) (k : IntS w B ys) (zp : IntS w P ps) (zq : IntS w Q qs) (_hx : Bd xs) (_hy : Bd ys) (_bp : Bd ps) (_bq : Bd qs) (hn : xs.length ≤ 1048576) (hm : ys.length ≤ 1048576) (lp : ps.length ≤ 1048576) (lq : qs.length ≤ 1048576) :
    Calls Try.prog 32 #[.agg #[.slice A xs.length c, .slice B ys.length e], .slice P ps.length cp, .slice Q qs.length cq] w (RetIB w (stkR xs ys ps qs) (stkOk xs ys ps qs)) := by
  obtain ⟨r1, q1⟩ : ∃ r, (good xs ys && isProc xs.length ps) = r := ⟨_, rfl⟩
  cases r1
  case false =>
    have hO : stkOk xs ys ps qs = false := by unfold stkOk ; simp [q1]
    have hV_stkR := stkR_no hO
    rw [hV_stkR]
    rw [hO]
    clear hO hV_stkR
    have HG1 := Lib.hid (fun W (h : IntS W A xs) (k : IntS W B ys) (zp : IntS W P ps) => l3Good_any A B P c e cp xs ys ps W h k zp _hx _hy hn hm lp)
    rw [q1] at HG1
    clear q1 _hx _hy _bp _bq
    go_enter Try.func32, Try.ntmps32
    go_wp2_with fail
    refine (HG1.out _ (h.alloc _) (k.alloc _) (zp.alloc _)).mono ?_
    rintro e1 w1 ⟨rfl, hb⟩
    have hx0 : w1.cell? ⟨w.heap.size, 0, none⟩ = some (.slice A xs.length c) := keep_cell hb (by simp)
    have hx1 : w1.cell? ⟨w.heap.size, 1, none⟩ = some (.slice B ys.length e) := keep_cell hb (by simp)
    have hw : Below w.heap.size w w1 := below_alloc (hb)
    clear hb
    go_wp2
    go_ret2
    exact ⟨_, _, rfl, .inr ⟨_, rfl, hw.size, ⟨#[], heap_alloc_new _ _, [], rfl⟩⟩, keep_below_alloc hw _⟩
  case true =>
    obtain ⟨r2, q2⟩ : ∃ r, (isStk xs.length qs) = r := ⟨_, rfl⟩
    cases r2
    case false =>
      have hO : stkOk xs ys ps qs = false := by unfold stkOk ; simp [q1, q2]
      have hV_stkR := stkR_no hO
      rw [hV_stkR]
      rw [hO]
      clear hO hV_stkR
      have HG1 := Lib.hid (fun W (h : IntS W A xs) (k : IntS W B ys) (zp : IntS W P ps) => l3Good_any A B P c e cp xs ys ps W h k zp _hx _hy hn hm lp)
      rw [q1] at HG1
      have HG2 := Lib.hid (fun W (zq : IntS W Q qs) => l3Stakes_any A B Q xs.length c ys.length e cq qs W zq hn lq)
      rw [q2] at HG2
      clear q1 q2 _hx _hy _bp _bq
      go_enter Try.func32, Try.ntmps32
      go_wp2_with fail
      refine (HG1.out _ (h.alloc _) (k.alloc _) (zp.alloc _)).mono ?_
      rintro e1 w1 ⟨rfl, hb⟩
      have hx0 : w1.cell? ⟨w.heap.size, 0, none⟩ = some (.slice A xs.length c) := keep_cell hb (by simp)
      have hx1 : w1.cell? ⟨w.heap.size, 1, none⟩ = some (.slice B ys.length e) := keep_cell hb (by simp)
      have hw : Below w.heap.size w w1 := below_alloc (hb)
      clear hb
      go_wp2_with fail
      refine (HG2.out _ (zq.below hw)).mono ?_
      rintro e1 w2 ⟨rfl, hb⟩
      replace hx0 := keep_cell hb hx0
      replace hx1 := keep_cell hb hx1
      replace hw := keep_below hb hw
      clear hb
      go_wp2
      go_ret2
      exact ⟨_, _, rfl, .inr ⟨_, rfl, hw.size, ⟨#[], heap_alloc_new _ _, [], rfl⟩⟩, keep_below_alloc hw _⟩
    case true =>
      have hO : stkOk xs ys ps qs = true := by unfold stkOk ; simp [q1, q2]
      have hV_stkR := stkR_yes hO
      rw [hV_stkR]
      rw [hO]
      clear hO hV_stkR
      have HG1 := Lib.hid (fun W (h : IntS W A xs) (k : IntS W B ys) (zp : IntS W P ps) => l3Good_any A B P c e cp xs ys ps W h k zp _hx _hy hn hm lp)
      rw [q1] at HG1
      have HG2 := Lib.hid (fun W (zq : IntS W Q qs) => l3Stakes_any A B Q xs.length c ys.length e cq qs W zq hn lq)
      rw [q2] at HG2
      have hgl := good_len (Bool.and_eq_true_iff.1 q1).1
      have HU := Lib.hid (good_upL (Bool.and_eq_true_iff.1 q1).1)
      have hp := isProc_iff (Bool.and_eq_true_iff.1 q1).2
      have hs := isStk_iff q2
      have HB := Lib.hid (fun i j => stkG_bd xs hp.2 hs.2 i j)
      have HS := Lib.hid (fun k (hk : 1 ≤ k) => stkG_succ xs ps qs hk)
      have HL := Lib.hid (fun k => stkG_len xs ps qs k)
      have HV := Lib.hid (fun j => And.intro (hp.2 j) (hs.2 j))
      obtain ⟨n, e1⟩ : ∃ n, xs.length = n := ⟨_, rfl⟩
      have e2 : ys.length = n := by rw [hgl.2.2]; exact e1
      have e3 : ps.length = n := by rw [hp.1]; exact e1
      have e4 : qs.length = n := by rw [hs.1]; exact e1
      clear hp hs
      simp only [e1, e2, e3, e4] at HG1 HG2 HU hn hm lp lq hgl ⊢
      have HN := Lib.hid e1.symm
      have HP := Lib.hid e3.symm
      have HQ := Lib.hid e4.symm
      obtain ⟨hgl1, hgl2, _⟩ := hgl
      clear e1 e2 e3 e4
      clear q1 q2 _hx _hy _bp _bq
      go_enter Try.func32, Try.ntmps32
      go_wp2_with fail
      refine (HG1.out _ (h.alloc _) (k.alloc _) (zp.alloc _)).mono ?_
      rintro e1 w1 ⟨rfl, hb⟩
      have hx0 : w1.cell? ⟨w.heap.size, 0, none⟩ = some (.slice A n c) := keep_cell hb (by simp)
      have hx1 : w1.cell? ⟨w.heap.size, 1, none⟩ = some (.slice B n e) := keep_cell hb (by simp)
      have hw : Below w.heap.size w w1 := below_alloc (hb)
      clear hb
      go_wp2_with fail
      refine (HG2.out _ (zq.below hw)).mono ?_
      rintro e1 w2 ⟨rfl, hb⟩
      replace hx0 := keep_cell hb hx0
      replace hx1 := keep_cell hb hx1
      replace hw := keep_below hb hw
      clear hb
      clear HG1 HG2
      obtain ⟨i0, hi, hz0, hz1, hz2⟩ := info_parts info_int
      go_wp2
      go_loopw [8, 9] (fun v i wr => ∃ k : Nat, 1 ≤ k ∧ k ≤ n ∧ i = .int .i64 k ∧ wr.ownsRow (w.heap.size + 1) 3 1 v k (i64s (stkG xs ps qs k)) ∧ wr.cell? ⟨w.heap.size, 0, none⟩ = some (.slice A n c) ∧ Below w.heap.size w wr) (fun _ i _ => n - (intOf i).toNat)
      case atStart => exact ⟨1, by omega, by omega, rfl, own_one _ _ _ 0 rfl (by have := World.block_lt_of_cell? _ _ hx0; exact this), (by rw [World.cell?_alloc_lt _ _ _ (World.block_lt_of_cell? _ _ hx0)]; exact hx0), keep_below_alloc hw _⟩
      case round =>
        clear hx0 hx1 hw
        obtain ⟨k, hk1, hk, rfl, hown, hbx, hb1⟩ := hrel
        have hlt' : w.heap.size < wr.heap.size := World.block_lt_of_cell? _ _ hbx
        by_cases hlt : k < n
        · obtain ⟨p, hp, hpk⟩ := HU.out k hk1 hlt
          obtain ⟨b, o, rfl, hc⟩ := (h.below hb1).at_ (j := k) (by rw [← HN.out]; exact hlt)
          obtain ⟨b2, o2, rfl, hcp⟩ := zp.at_ (j := p) (by rw [← HP.out]; omega)
          obtain ⟨b2', o2', hbo, hck⟩ := zp.at_ (j := k) (by rw [← HP.out]; omega)
          cases hbo
          obtain ⟨b3, o3, rfl, hcs⟩ := zq.at_ (j := p) (by rw [← HQ.out]; omega)
          have l2 : b2 < w.heap.size := World.block_lt_of_cell? _ _ hcp
          have l3 : b3 < w.heap.size := World.block_lt_of_cell? _ _ hcs
          replace hcp := (hb1.cell l2).trans hcp
          replace hck := (hb1.cell l2).trans hck
          replace hcs := (hb1.cell l3).trans hcs
          obtain ⟨g, cap, rfl, hgB, hcd⟩ := own_cell hown (j := p) (by rw [HL.out]; exact hpk)
          rw [hp] at hc
          have v1 := HV.out p
          have v2 := HV.out k
          have v3 := stk_mul v1.2 v2.1 v1.1
          have v4 := HB.out k p
          have hsu := HS.out k hk1
          rw [hp, Int.toNat_natCast] at hsu
          have hpn : p < n := by omega
          obtain ⟨d, hd⟩ : ∃ d, nth (stkG xs ps qs k) p = d := ⟨_, rfl⟩
          obtain ⟨s, hs⟩ : ∃ s, nth qs p = s := ⟨_, rfl⟩
          obtain ⟨x, hx⟩ : ∃ x, nth ps k = x := ⟨_, rfl⟩
          obtain ⟨y, hy⟩ : ∃ y, nth ps p = y := ⟨_, rfl⟩
          rw [hd, hs, hx, hy] at hsu
          rw [hd] at hcd v4
          rw [hs] at hcs v1 v3
          rw [hx] at hck v2 v3
          rw [hy] at hcp v1 v3
          obtain ⟨m, hm'⟩ : ∃ m, s * (x - y) = m := ⟨_, rfl⟩
          rw [hm'] at hsu v3
          have w1 : IntKind.i64.wrap (x - y) = x - y := IntWalk.i64_in _ (by omega)
          have w2 : IntKind.i64.wrap (s * (x - y)) = m := by rw [hm']; exact IntWalk.i64_in _ (by omega)
          have w3 : IntKind.i64.wrap (d + m) = d + m := IntWalk.i64_in _ (by omega)
          have HP' : Hid (i64s (stkG xs ps qs (k + 1)) = i64s (stkG xs ps qs k) ++ [Value.int .i64 (d + m)]) := by
            show _ = _; rw [hsu, i64s_app]
          clear hp hd hs hx hy hm' hsu v1 v2 v3 v4
          generalize stkG xs ps qs k = L at *
          go_wp2
          go_region_held3 (fun w' => w'.cell? ⟨g, p, none⟩ = some (.int .i64 d) ∧ w'.cell? ⟨b3, o3 + p, none⟩ = some (.int .i64 s) ∧ w'.cell? ⟨b2, o2 + k, none⟩ = some (.int .i64 x) ∧ w'.cell? ⟨b2, o2 + p, none⟩ = some (.int .i64 y))
            (first | go_keep | (go_split_ands; exact ⟨(hel _ _ _ rfl p (by omega)).trans (by assumption), grown_cell hgrow (by assumption) (own_ne (g := b3) hown (by omega)), grown_cell hgrow (by assumption) (own_ne (g := b2) hown (by omega)), grown_cell hgrow (by assumption) (own_ne (g := b2) hown (by omega))⟩))
            ((refine step_append_elder _ (by rfl) _ _ 22 (by rfl) (w.heap.size + 1) 3 i0 (.int .i64 0) 1 8 Try.underlying22 hi hz0 hz1 hz2 rfl (by decide) _ _ _ (by rfl) ((hown.alloc _).drew) ⟨wr.heap.size, 0, none⟩ 1 1 [.int .i64 (d + m)] (by rfl) rfl (World.news_of_block (cs := #[.int .i64 (d + m)]) (t := 3) (fr := (0, 0)) (heap_alloc_new wr _)) (by simp [Value.oneCell']) (by unfold maxLen; omega) (by omega) (by simp; omega) ?_; intro v' w1 hown1 hgrow hat hel))
          have hbx1 := grown_cell hgrow (p := ⟨w.heap.size, 0, none⟩) (by show (wr.alloc _).cell? _ = _; rw [World.cell?_alloc_lt _ _ _ hlt']; exact hbx) (own_ne (g := w.heap.size) hown (by omega))
          have hb2 : Below w.heap.size w w1 := Below.grown ((hb1.alloc hb1.size _).drew) hgrow (by have := hb1.size; simp; omega) (fun g hg => by have := (hown.lt g hg).1; omega)
          rw [← HP'.out] at hown1
          clear hown hgrow hbx hb1 HP' hat hel
          go_wp2
          go_roundw
          case rel => exact ⟨k + 1, by omega, by omega, by go_num, hown1, hbx1, hb2⟩
          case measure => simp [intOf]; omega
        · have hkn : k = n := by omega
          rw [hkn] at hown
          obtain ⟨A', c', rfl, hO⟩ := own_form hown
          have hll : Hid ((stkG xs ps qs n).length = n) := HL.out n
          clear hkn hown HL HB HS HV HU
          go_wp2
          go_ret2
          exact ⟨A', c', rfl, hO.mono (by omega), hb1⟩
set_option maxHeartbeats 1000000 in
set_option maxRecDepth 100000 in
theorem implStakeGains_any (A B : Option Addr) (c e : Nat) (xs ys : List Int) (P : Option Addr) (cp : Nat) (ps : List Int) (Q : Option Addr) (cq : Nat) (qs : List Int) (w : World) (h : IntS w A xs) (k : IntS w B ys) (zp : IntS w P ps) (zq : IntS w Q qs) (_hx : Bd xs) (_hy : Bd ys) (_bp : Bd ps) (_bq : Bd qs) (hn : xs.length ≤ 1048576) (hm : ys.length ≤ 1048576) (lp : ps.length ≤ 1048576) (lq : qs.length ≤ 1048576) :
    Calls Try.prog 34 #[.agg #[.slice A xs.length c, .slice B ys.length e], .slice P ps.length cp, .slice Q qs.length cq] w (RetIB w (stkR xs ys ps qs) (stkOk xs ys ps qs)) := by
  obtain ⟨r1, q1⟩ : ∃ r, (good xs ys) = r := ⟨_, rfl⟩
  cases r1
  case false =>
    have hO : stkOk xs ys ps qs = false := by unfold stkOk isStk; simp [q1]
    have hV_stkR := stkR_no hO
    rw [hV_stkR]
    rw [hO]
    clear hO hV_stkR
    have HG1 := Lib.hid (fun W (h : IntS W A xs) (k : IntS W B ys) => isTree_any A B c e xs ys W h k _hx _hy hn hm)
    rw [q1] at HG1
    clear q1 _hx _hy _bp _bq
    go_enter Try.func34, Try.ntmps34
    go_wp2_with fail
    refine (HG1.out _ (h.alloc _) (k.alloc _)).mono ?_
    rintro e1 w1 ⟨rfl, hb⟩
    have hx0 : w1.cell? ⟨w.heap.size, 0, none⟩ = some (.slice A xs.length c) := keep_cell hb (by simp)
    have hx1 : w1.cell? ⟨w.heap.size, 1, none⟩ = some (.slice B ys.length e) := keep_cell hb (by simp)
    have hw : Below w.heap.size w w1 := below_alloc (hb)
    clear hb
    go_wp2
    go_ret2
    exact ⟨none, 0, rfl, .inl ⟨rfl, rfl⟩, hw⟩
  case true =>
    obtain ⟨r2, q2⟩ : ∃ r, (isProc xs.length ps) = r := ⟨_, rfl⟩
    cases r2
    case false =>
      have hO : stkOk xs ys ps qs = false := by unfold stkOk isStk; simp [q1, q2]
      have hV_stkR := stkR_no hO
      rw [hV_stkR]
      rw [hO]
      clear hO hV_stkR
      have HG1 := Lib.hid (fun W (h : IntS W A xs) (k : IntS W B ys) => isTree_any A B c e xs ys W h k _hx _hy hn hm)
      rw [q1] at HG1
      have HG2 := Lib.hid (fun W (zp : IntS W P ps) => isProcess_any A B P c ys.length e cp xs.length ps W zp lp hn)
      rw [q2] at HG2
      clear q1 q2 _hx _hy _bp _bq
      go_enter Try.func34, Try.ntmps34
      go_wp2_with fail
      refine (HG1.out _ (h.alloc _) (k.alloc _)).mono ?_
      rintro e1 w1 ⟨rfl, hb⟩
      have hx0 : w1.cell? ⟨w.heap.size, 0, none⟩ = some (.slice A xs.length c) := keep_cell hb (by simp)
      have hx1 : w1.cell? ⟨w.heap.size, 1, none⟩ = some (.slice B ys.length e) := keep_cell hb (by simp)
      have hw : Below w.heap.size w w1 := below_alloc (hb)
      clear hb
      go_wp2_with fail
      refine (HG2.out _ (zp.below hw)).mono ?_
      rintro e1 w2 ⟨rfl, hb⟩
      replace hx0 := keep_cell hb hx0
      replace hx1 := keep_cell hb hx1
      replace hw := keep_below hb hw
      clear hb
      go_wp2
      go_ret2
      exact ⟨none, 0, rfl, .inl ⟨rfl, rfl⟩, hw⟩
    case true =>
      obtain ⟨r3, q3⟩ : ∃ r, (decide (qs.length = xs.length)) = r := ⟨_, rfl⟩
      cases r3
      case false =>
        have hO : stkOk xs ys ps qs = false := by unfold stkOk isStk; simp [q1, q2, q3]
        have hV_stkR := stkR_no hO
        rw [hV_stkR]
        rw [hO]
        clear hO hV_stkR
        have HG1 := Lib.hid (fun W (h : IntS W A xs) (k : IntS W B ys) => isTree_any A B c e xs ys W h k _hx _hy hn hm)
        rw [q1] at HG1
        have HG2 := Lib.hid (fun W (zp : IntS W P ps) => isProcess_any A B P c ys.length e cp xs.length ps W zp lp hn)
        rw [q2] at HG2
        have hd : ((qs.length : Int) != (ps.length : Int)) = true := by have := of_decide_eq_false q3; have := (isProc_iff q2).1; rw [bne_iff_ne]; omega
        clear q1 q2 q3 _hx _hy _bp _bq
        go_enter Try.func34, Try.ntmps34
        go_wp2_with fail
        refine (HG1.out _ (h.alloc _) (k.alloc _)).mono ?_
        rintro e1 w1 ⟨rfl, hb⟩
        have hx0 : w1.cell? ⟨w.heap.size, 0, none⟩ = some (.slice A xs.length c) := keep_cell hb (by simp)
        have hx1 : w1.cell? ⟨w.heap.size, 1, none⟩ = some (.slice B ys.length e) := keep_cell hb (by simp)
        have hw : Below w.heap.size w w1 := below_alloc (hb)
        clear hb
        go_wp2_with fail
        refine (HG2.out _ (zp.below hw)).mono ?_
        rintro e1 w2 ⟨rfl, hb⟩
        replace hx0 := keep_cell hb hx0
        replace hx1 := keep_cell hb hx1
        replace hw := keep_below hb hw
        clear hb
        go_wp2
        go_ret2
        exact ⟨none, 0, rfl, .inl ⟨rfl, rfl⟩, hw⟩
      case true =>
        obtain ⟨r4, q4⟩ : ∃ r, (allIn qs (-20) 20) = r := ⟨_, rfl⟩
        cases r4
        case false =>
          have hO : stkOk xs ys ps qs = false := by unfold stkOk isStk; simp [q1, q2, q3, q4]
          have hV_stkR := stkR_no hO
          rw [hV_stkR]
          rw [hO]
          clear hO hV_stkR
          have HG1 := Lib.hid (fun W (h : IntS W A xs) (k : IntS W B ys) => isTree_any A B c e xs ys W h k _hx _hy hn hm)
          rw [q1] at HG1
          have HG2 := Lib.hid (fun W (zp : IntS W P ps) => isProcess_any A B P c ys.length e cp xs.length ps W zp lp hn)
          rw [q2] at HG2
          have HG4 := Lib.hid (fun W (zq : IntS W Q qs) => allWithin_b Q cq qs (-20) 20 W zq lq)
          rw [q4] at HG4
          have hd : ((qs.length : Int) != (ps.length : Int)) = false := by have := of_decide_eq_true q3; have := (isProc_iff q2).1; rw [bne_eq_false_iff_eq]; omega
          clear q1 q2 q3 q4 _hx _hy _bp _bq
          go_enter Try.func34, Try.ntmps34
          go_wp2_with fail
          refine (HG1.out _ (h.alloc _) (k.alloc _)).mono ?_
          rintro e1 w1 ⟨rfl, hb⟩
          have hx0 : w1.cell? ⟨w.heap.size, 0, none⟩ = some (.slice A xs.length c) := keep_cell hb (by simp)
          have hx1 : w1.cell? ⟨w.heap.size, 1, none⟩ = some (.slice B ys.length e) := keep_cell hb (by simp)
          have hw : Below w.heap.size w w1 := below_alloc (hb)
          clear hb
          go_wp2_with fail
          refine (HG2.out _ (zp.below hw)).mono ?_
          rintro e1 w2 ⟨rfl, hb⟩
          replace hx0 := keep_cell hb hx0
          replace hx1 := keep_cell hb hx1
          replace hw := keep_below hb hw
          clear hb
          go_wp2_with fail
          refine (HG4.out _ (zq.below hw)).mono ?_
          rintro e1 w3 ⟨rfl, hb⟩
          replace hx0 := keep_cell hb hx0
          replace hx1 := keep_cell hb hx1
          replace hw := keep_below hb hw
          clear hb
          go_wp2
          go_ret2
          exact ⟨none, 0, rfl, .inl ⟨rfl, rfl⟩, hw⟩
        case true =>
          have hO : stkOk xs ys ps qs = true := by unfold stkOk isStk; simp [q1, q2, q3, q4]
          have hV_stkR := stkR_yes hO
          rw [hV_stkR]
          rw [hO]
          clear hO hV_stkR
          have HG1 := Lib.hid (fun W (h : IntS W A xs) (k : IntS W B ys) => isTree_any A B c e xs ys W h k _hx _hy hn hm)
          rw [q1] at HG1
          have HG2 := Lib.hid (fun W (zp : IntS W P ps) => isProcess_any A B P c ys.length e cp xs.length ps W zp lp hn)
          rw [q2] at HG2
          have HG4 := Lib.hid (fun W (zq : IntS W Q qs) => allWithin_b Q cq qs (-20) 20 W zq lq)
          rw [q4] at HG4
          have hd : ((qs.length : Int) != (ps.length : Int)) = false := by have := of_decide_eq_true q3; have := (isProc_iff q2).1; rw [bne_eq_false_iff_eq]; omega
          have hgl := good_len q1
          have HU := Lib.hid (good_upL q1)
          have hp := isProc_iff q2
          have hs := isStk_iff (show isStk xs.length qs = true by unfold isStk; rw [q3, q4]; rfl)
          have HB := Lib.hid (fun i j => stkG_bd xs hp.2 hs.2 i j)
          have HS := Lib.hid (fun k (hk : 1 ≤ k) => stkG_succ xs ps qs hk)
          have HL := Lib.hid (fun k => stkG_len xs ps qs k)
          have HV := Lib.hid (fun j => And.intro (hp.2 j) (hs.2 j))
          obtain ⟨n, e1⟩ : ∃ n, xs.length = n := ⟨_, rfl⟩
          have e2 : ys.length = n := by rw [hgl.2.2]; exact e1
          have e3 : ps.length = n := by rw [hp.1]; exact e1
          have e4 : qs.length = n := by rw [hs.1]; exact e1
          clear hp hs
          simp only [e1, e2, e3, e4] at HG1 HG2 HG4 hd HU hn hm lp lq hgl ⊢
          have HN := Lib.hid e1.symm
          have HP := Lib.hid e3.symm
          have HQ := Lib.hid e4.symm
          obtain ⟨hgl1, hgl2, _⟩ := hgl
          clear e1 e2 e3 e4
          clear q1 q2 q3 q4 _hx _hy _bp _bq
          go_enter Try.func34, Try.ntmps34
          go_wp2_with fail
          refine (HG1.out _ (h.alloc _) (k.alloc _)).mono ?_
          rintro e1 w1 ⟨rfl, hb⟩
          have hx0 : w1.cell? ⟨w.heap.size, 0, none⟩ = some (.slice A n c) := keep_cell hb (by simp)
          have hx1 : w1.cell? ⟨w.heap.size, 1, none⟩ = some (.slice B n e) := keep_cell hb (by simp)
          have hw : Below w.heap.size w w1 := below_alloc (hb)
          clear hb
          go_wp2_with fail
          refine (HG2.out _ (zp.below hw)).mono ?_
          rintro e1 w2 ⟨rfl, hb⟩
          replace hx0 := keep_cell hb hx0
          replace hx1 := keep_cell hb hx1
          replace hw := keep_below hb hw
          clear hb
          go_wp2_with fail
          refine (HG4.out _ (zq.below hw)).mono ?_
          rintro e1 w3 ⟨rfl, hb⟩
          replace hx0 := keep_cell hb hx0
          replace hx1 := keep_cell hb hx1
          replace hw := keep_below hb hw
          clear hb
          clear HG1 HG2 HG4
          have hmk := run_makeI n (by omega)
          go_wp2
          go_loopw [9] (fun i wr => ∃ k : Nat, 1 ≤ k ∧ k ≤ n ∧ i = .int .i64 k ∧ RowX wr w3.heap.size (padZ (stkG xs ps qs k) n) ∧ wr.cell? ⟨w.heap.size, 0, none⟩ = some (.slice A n c) ∧ Below w.heap.size w wr) (fun i _ => n - (intOf i).toNat)
          case atStart =>
            refine ⟨1, by omega, by omega, rfl, ?_, (by rw [World.cell?_alloc_lt _ _ _ (World.block_lt_of_cell? _ _ hx0)]; exact hx0), keep_below_alloc hw _⟩
            show RowX _ _ (padZ [0] n)
            rw [padZ_one n hgl1]; exact RowX.zero _ _ rfl
          case round =>
            have hgw := World.block_lt_of_cell? _ _ hx0
            replace hgw : w.heap.size < w3.heap.size := hgw
            obtain ⟨g, hg⟩ : ∃ g, w3.heap.size = g := ⟨_, rfl⟩
            rw [hg] at hrel hgw ⊢
            clear hx0 hx1 hw hmk hg
            obtain ⟨k, hk1, hk, rfl, hrx, hbx, hb1⟩ := hrel
            have hlen := HL.out k
            by_cases hlt : k < n
            · obtain ⟨p, hp, hpk⟩ := HU.out k hk1 hlt
              obtain ⟨b, o, rfl, hc⟩ := (h.below hb1).at_ (j := k) (by rw [← HN.out]; exact hlt)
              obtain ⟨b2, o2, rfl, hcp⟩ := (zp.below hb1).at_ (j := p) (by rw [← HP.out]; omega)
              obtain ⟨b2', o2', hbo, hck⟩ := (zp.below hb1).at_ (j := k) (by rw [← HP.out]; omega)
              cases hbo
              obtain ⟨b3, o3, rfl, hcs⟩ := (zq.below hb1).at_ (j := p) (by rw [← HQ.out]; omega)
              have hcd := hrx.cell (j := p) (by rw [padZ_len _ _ (by omega)]; omega)
              have hck2 := hrx.cell (j := k) (by rw [padZ_len _ _ (by omega)]; omega)
              have hfk := hrx.free k
              rw [padZ_nth _ _ _ (by omega)] at hcd
              rw [hp] at hc
              have v1 := HV.out p
              have v2 := HV.out k
              have v3 := stk_mul v1.2 v2.1 v1.1
              have v4 := HB.out k p
              have hsu := HS.out k hk1
              rw [hp, Int.toNat_natCast] at hsu
              have hpn : p < n := by omega
              obtain ⟨d, hd⟩ : ∃ d, nth (stkG xs ps qs k) p = d := ⟨_, rfl⟩
              obtain ⟨s, hs⟩ : ∃ s, nth qs p = s := ⟨_, rfl⟩
              obtain ⟨x, hx⟩ : ∃ x, nth ps k = x := ⟨_, rfl⟩
              obtain ⟨y, hy⟩ : ∃ y, nth ps p = y := ⟨_, rfl⟩
              rw [hd, hs, hx, hy] at hsu
              rw [hd] at hcd v4
              rw [hs] at hcs v1 v3
              rw [hx] at hck v2 v3
              rw [hy] at hcp v1 v3
              obtain ⟨m, hm'⟩ : ∃ m, s * (x - y) = m := ⟨_, rfl⟩
              rw [hm'] at hsu v3
              have w1 : IntKind.i64.wrap (x - y) = x - y := IntWalk.i64_in _ (by omega)
              have w2 : IntKind.i64.wrap (s * (x - y)) = m := by rw [hm']; exact IntWalk.i64_in _ (by omega)
              have w3 : IntKind.i64.wrap (d + m) = d + m := IntWalk.i64_in _ (by omega)
              have hset := hrx.set k (d + m)
              rw [show (padZ (stkG xs ps qs k) n).set k (d + m) = padZ (stkG xs ps qs (k + 1)) n from by
                have := padZ_set (stkG xs ps qs k) n (d + m) (by omega)
                rw [hlen] at this
                rw [this, hsu]] at hset
              have HBX := Lib.hid (cell_far (u := .int .i64 (d + m)) hbx (g := g) (by simp; omega) k)
              have hb2 := below_far (v := .int .i64 (d + m)) hb1 (g := g) (by omega) k
              have HX := Lib.hid hset
              clear hp hd hs hx hy hm' hsu v1 v2 v3 v4 hset hrx hlen
              generalize stkG xs ps qs k = L at *
              go_wp2
              go_still_tail 22, (by kernel_rfl)
              change wpList _ _ _ _ _ wr.drew
              go_wp2
              go_roundw
              case rel => exact ⟨k + 1, by omega, by omega, by go_num, HX.out, HBX.out, hb2.drew⟩
              case measure => simp [intOf]; omega
            · have hkn : k = n := by omega
              subst hkn
              rw [padZ_all _ _ hlen] at hrx
              have hll := Lib.hid hlen
              clear hlen HL HB HS HV HU
              go_wp2
              go_ret2
              exact ⟨some ⟨g, 0, none⟩, k, by rw [hll.out]; rfl, .inr ⟨_, rfl, by omega, hrx.row⟩, hb1⟩
end Go.Proofs.Ytkghljcahbkfdaa
