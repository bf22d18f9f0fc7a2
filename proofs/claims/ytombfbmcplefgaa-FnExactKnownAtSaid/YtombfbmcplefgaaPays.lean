/- Contracts: lists of pays. -/
import Derived.Test.YtombfbmcplefgaaTotl2
import Derived.Test.YtombfbmcplefgaaFrac6
namespace Go.Proofs.Ytombfbmcplefgaa
open Go.ChangeShapes Go.WideShapes Go.ChangeAt Go.RowKit

/-- Pays of a valid tree. -/
def payB (xs zs : List Int) : Bool := decide (zs.length = (endsL xs).length) && allIn zs (-999) 999
theorem pay_iff {xs zs : List Int} (h : payB xs zs = true) : zs.length = (endsL xs).length ∧ ∀ j, -999 ≤ nth zs j ∧ nth zs j ≤ 999 := by
  unfold payB at h
  rw [Bool.and_eq_true] at h
  exact ⟨of_decide_eq_true h.1, allIn_nth h.2 (by omega)⟩
set_option maxHeartbeats 1000000 in
set_option maxRecDepth 100000 in
theorem l2Pays_any (A B P : Option Addr) (c e cz : Nat) (xs ys zs : List Int) (w : World) (h : IntS w A xs) (k : IntS w B ys) (z : IntS w P zs) (hx : Bd xs) (hy : Bd ys) (hn : xs.length ≤ 1048576) (hm : ys.length ≤ 1048576) (hz : zs.length ≤ 1048576) :
    Calls Try.prog 89 #[.agg #[.slice A xs.length c, .slice B ys.length e], .slice P zs.length cz] w fun e1 w' => e1 = .returned (.bool (good xs ys && payB xs zs)) ∧ Below w.heap.size w w' := by
  obtain ⟨g, hg⟩ : ∃ g, good xs ys = g := ⟨_, rfl⟩
  have HL := Lib.hid (fun W (h : IntS W A xs) (k : IntS W B ys) => l2Good_r hg A B c e W h k hx hy hn hm)
  have HE : Hid (g = true → ∀ W, IntS W A xs → Calls Try.prog 78 #[.agg #[.slice A xs.length c, .slice B ys.length e]] W (RetI W (endsL xs))) := fun e1 W h => by
    have hg' := hg.trans e1
    exact l2Ends_any A B c ys.length e xs W h (by have := good_len hg'; omega) (good_iff.1 hg').2.1 (good_root hg')
  clear hx hy
  rw [hg]
  clear hg
  generalize hr : (g && payB xs zs) = r
  have HR := Lib.hid hr
  clear hr
  go_enter Try.func89, Try.ntmps89
  go_wp2
  go_loop [5] (fun i => ∃ k : Nat, k ≤ zs.length ∧ i = .int .i64 k ∧ Hid (∀ j, j < k → -999 ≤ nth zs j ∧ nth zs j ≤ 999)) (fun i => zs.length - (intOf i).toNat)
  case atStart => exact ⟨0, Nat.zero_le _, rfl, fun j hj => by omega⟩
  case round =>
    obtain ⟨j, hj, rfl, HA⟩ := hrel
    by_cases hlt : j < zs.length
    · obtain ⟨b, o, rfl, hc⟩ := z.at_ (j := j) hlt
      have hb : b < w.heap.size := World.block_lt_of_cell? w _ hc
      by_cases hzj : -999 ≤ nth zs j ∧ nth zs j ≤ 999
      · have HA' : Hid (∀ q, q < j + 1 → -999 ≤ nth zs q ∧ nth zs q ≤ 999) := fun q hq => by
          by_cases e : q = j
          · subst e; exact hzj
          · exact HA.out q (by omega)
        go_wp2_with (go_at_call 115; refine (l1In_yes _ _ _ _ hzj.1 hzj.2).mono ?_; rintro e w' ⟨rfl, rfl⟩)
        go_round
        case rel => exact ⟨j + 1, by omega, by go_num, HA'⟩
        case measure => simp [intOf]; omega
      · have hr : r = false := by rw [← HR.out]; unfold payB; rw [allIn_no hlt hzj]; simp
        subst hr
        go_wp2_with (go_at_call 115; refine (l1In_no _ _ _ _ hzj).mono ?_; rintro e w' ⟨rfl, rfl⟩)
        go_ret
        exact ⟨rfl, by (repeat (first | with_reducible exact Below.refl _ _ | with_reducible assumption | with_reducible refine Below.alloc' ?_ ?_ _ | with_reducible refine Below.setCell' ?_ ?_ _ | with_reducible refine Below.drewN' ?_ _ | with_reducible refine Below.drew ?_ | with_reducible refine Below.transA ?_ (by assumption) ?_ | omega | (focus (simp; done)) | (focus (simp; omega))))⟩
    · have hall : allIn zs (-999) 999 = true := allIn_yes fun q hq => HA.out q (by omega)
      have HR' : Hid ((g && decide (zs.length = (endsL xs).length)) = r) := by
        have := HR.out; unfold payB at this; rw [hall] at this; show _ = _; simpa using this
      clear HR HA hall
      cases g
      · have hr : r = false := by rw [← HR'.out]; rfl
        subst hr
        go_wp2_with fail
        refine (HL.out _ (h.alloc _) (k.alloc _)).mono ?_
        rintro e1 w1 ⟨rfl, hb1⟩
        go_wp2
        go_ret
        exact ⟨rfl, below_alloc hb1⟩
      · have HE' := Lib.hid (HE.out rfl)
        generalize endsL xs = E at *
        go_wp2_with fail
        refine (HL.out _ (h.alloc _) (k.alloc _)).mono ?_
        rintro e1 w1 ⟨rfl, hb1⟩
        have hx0 : w1.cell? ⟨w.heap.size, 0, none⟩ = some (.slice A xs.length c) := keep_cell hb1 (by simp)
        have hx1 : w1.cell? ⟨w.heap.size, 1, none⟩ = some (.slice B ys.length e) := keep_cell hb1 (by simp)
        have hw : Below w.heap.size w w1 := below_alloc hb1
        clear hb1
        go_wp2_with fail
        refine (HE'.out _ (h.below hw)).mono ?_
        rintro e1 w2 ⟨A1, c1, rfl, ho, hb2⟩
        clear ho
        by_cases hl : zs.length = E.length
        · have hr : r = true := by rw [← HR'.out]; simp [hl]
          subst hr
          have hd : ((zs.length : Int) == (E.length : Int)) = true := by rw [beq_iff_eq]; omega
          clear hl HR' HE
          go_wp2
          go_ret
          exact ⟨rfl, keep_below hb2 hw⟩
        · have hr : r = false := by rw [← HR'.out]; simp [hl]
          subst hr
          have hd : ((zs.length : Int) == (E.length : Int)) = false := by rw [beq_eq_false_iff_ne]; omega
          clear hl HR' HE
          go_wp2
          go_ret
          exact ⟨rfl, keep_below hb2 hw⟩
set_option maxHeartbeats 1000000 in
theorem arePays_good {xs ys : List Int} (hg : good xs ys = true) (A B P : Option Addr) (c m e cz : Nat) (zs : List Int) (w : World) (h : IntS w A xs) (z : IntS w P zs) (hz : zs.length ≤ 1048576) :
    Calls Try.prog 91 #[.agg #[.slice A xs.length c, .slice B m e], .slice P zs.length cz] w fun e1 w' => e1 = .returned (.bool (payB xs zs)) ∧ Below w.heap.size w w' := by
  have HE := Lib.hid (fun W (h : IntS W A xs) => ends_any A B c m e xs W h (by have := good_len hg; omega) (good_iff.1 hg).2.1 (good_root hg))
  have HI := Lib.hid (fun W (z : IntS W P zs) => allWithin_any P cz zs (-999) 999 W z (by unfold maxLen; omega))
  have hel := ends_len xs
  have hgl := (good_len hg).2.1
  unfold payB
  generalize allIn zs (-999) 999 = r at *
  generalize endsL xs = E at *
  clear hg
  by_cases hl : zs.length = E.length
  · have hd : ((zs.length : Int) == (E.length : Int)) = true := by rw [beq_iff_eq]; omega
    rw [decide_eq_true hl, Bool.true_and]
    clear hl
    go_enter Try.func91, Try.ntmps91
    go_wp2_with fail
    refine (HE.out _ (h.alloc _)).mono ?_
    rintro e1 w1 ⟨A1, c1, rfl, ho, hb1⟩
    have hw : Below w.heap.size w w1 := below_alloc hb1
    clear ho
    go_wp2_with fail
    refine (HI.out _ (z.below hw)).mono ?_
    rintro e1 w2 ⟨rfl, rfl⟩
    go_wp2
    go_ret
    exact ⟨rfl, hw⟩
  · have hd : ((zs.length : Int) == (E.length : Int)) = false := by rw [beq_eq_false_iff_ne]; omega
    rw [decide_eq_false hl, Bool.false_and]
    clear hl
    go_enter Try.func91, Try.ntmps91
    go_wp2_with fail
    refine (HE.out _ (h.alloc _)).mono ?_
    rintro e1 w1 ⟨A1, c1, rfl, ho, hb1⟩
    have hw : Below w.heap.size w w1 := below_alloc hb1
    clear ho
    go_wp2
    go_ret
    exact ⟨rfl, hw⟩
end Go.Proofs.Ytombfbmcplefgaa
