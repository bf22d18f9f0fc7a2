/- Contracts of the reference's function that multiplies fractions. -/
import Derived.Deep.RegionWith
import Derived.Deep.RegionHeld3
import Derived.Deep.DrawnRows
import Derived.Test.YtombfbmcplefgaaMgMn7
import Derived.Test.YtombfbmcplefgaaMgMn2
namespace Go.Proofs.Ytombfbmcplefgaa
open Go.ChangeShapes Go.WideShapes Go.ChangeAt Go.RowKit

theorem times_low {a b c d : Int} (h : isFrac a b = true) (k : isFrac c d = true) :
    lowX a d * lowX c b = lowX (a * c) (b * d) ∧ lowY a d * lowY c b = lowY (a * c) (b * d) := by
  have h1 := of_decide_eq_true h
  have k1 := of_decide_eq_true k
  have hb : 1 ≤ b := h1.2.2.1
  have hd : 1 ≤ d := k1.2.2.1
  have hab : Int.gcd a b = 1 := h1.2.2.2.2
  have hcd : Int.gcd c d = 1 := k1.2.2.2.2
  have m1 := low_mul a d
  have m2 := low_mul c b
  have y1 := lowY_pos a d (by omega)
  have y2 := lowY_pos c b (by omega)
  have g1 := low_coprime a d (by omega)
  have g2 := low_coprime c b (by omega)
  have hbd : 1 * 1 ≤ b * d := Int.mul_le_mul (by omega) (by omega) (by omega) (by omega)
  have hyy : 1 * 1 ≤ lowY a d * lowY c b := Int.mul_le_mul (by omega) (by omega) (by omega) (by omega)
  refine (fun e => ⟨e.1.symm, e.2.symm⟩) (low_unique (a := a * c) (b := b * d) (x := lowX a d * lowX c b) (y := lowY a d * lowY c b) (by omega) (by omega) ?_ ?_)
  · -- gcd of the products is 1
    have dvd_gcd : ∀ {u v u' v' : Int}, u' ∣ u → v' ∣ v → Int.gcd u v = 1 → Nat.Coprime u'.natAbs v'.natAbs := by
      intro u v u' v' hu hv hg
      exact Nat.Coprime.coprime_dvd_left (Int.natAbs_dvd_natAbs.2 hu) (Nat.Coprime.coprime_dvd_right (Int.natAbs_dvd_natAbs.2 hv) hg)
    have xa : lowX a d ∣ a := ⟨lowD a d, by rw [Int.mul_comm]; exact m1.1.symm⟩
    have yd : lowY a d ∣ d := ⟨lowD a d, by rw [Int.mul_comm]; exact m1.2.symm⟩
    have xc : lowX c b ∣ c := ⟨lowD c b, by rw [Int.mul_comm]; exact m2.1.symm⟩
    have yb : lowY c b ∣ b := ⟨lowD c b, by rw [Int.mul_comm]; exact m2.2.symm⟩
    have c11 : Nat.Coprime (lowX a d).natAbs (lowY a d).natAbs := g1
    have c22 : Nat.Coprime (lowX c b).natAbs (lowY c b).natAbs := g2
    have c12 : Nat.Coprime (lowX a d).natAbs (lowY c b).natAbs := dvd_gcd xa yb hab
    have c21 : Nat.Coprime (lowX c b).natAbs (lowY a d).natAbs := dvd_gcd xc yd hcd
    unfold Int.gcd
    rw [Int.natAbs_mul, Int.natAbs_mul]
    exact Nat.Coprime.mul_left (Nat.Coprime.mul_right c11 c12) (Nat.Coprime.mul_right c21 c22)
  · have e1 : lowX a d * d = a * lowY a d := by
      conv => lhs; arg 2; rw [← m1.2]
      conv => rhs; arg 1; rw [← m1.1]
      rw [Int.mul_left_comm, Int.mul_assoc]
    have e2 : lowX c b * b = c * lowY c b := by
      conv => lhs; arg 2; rw [← m2.2]
      conv => rhs; arg 1; rw [← m2.1]
      rw [Int.mul_left_comm, Int.mul_assoc]
    calc lowX a d * lowX c b * (b * d) = (lowX a d * d) * (lowX c b * b) := by ac_rfl
      _ = (a * lowY a d) * (c * lowY c b) := by rw [e1, e2]
      _ = a * c * (lowY a d * lowY c b) := by ac_rfl

set_option maxHeartbeats 4000000 in
set_option maxRecDepth 100000 in
theorem l2Times_any (a b c d : Int) (w : World) (h : isFrac a b = true) (k : isFrac c d = true) :
    Calls Try.prog 109 #[.agg #[.int .i64 a, .int .i64 b], .agg #[.int .i64 c, .int .i64 d]] w fun e w' => e = .returned (.agg #[.int .i64 (lowX (a * c) (b * d)), .int .i64 (lowY (a * c) (b * d))]) ∧ Below w.heap.size w w' := by
  have ht := times_low h k
  rw [← ht.1, ← ht.2]
  have b1 := frac_bd h
  have b2 := frac_bd k
  have hx1 := tdiv_bd a (lowD a d) 1000000000 (by omega) (by omega)
  have hy1 := tdiv_bd d (lowD a d) 1000000 (by omega) (by omega)
  have hx2 := tdiv_bd c (lowD c b) 1000000000 (by omega) (by omega)
  have hy2 := tdiv_bd b (lowD c b) 1000000 (by omega) (by omega)
  change _ ≤ lowX a d ∧ lowX a d ≤ _ at hx1
  change _ ≤ lowY a d ∧ lowY a d ≤ _ at hy1
  change _ ≤ lowX c b ∧ lowX c b ≤ _ at hx2
  change _ ≤ lowY c b ∧ lowY c b ≤ _ at hy2
  have m1 := mul_bd hx1 hx2
  have m2 := mul_bd hy1 hy2
  have HC1 := Lib.hid (fun W => l2Cut_exact a d W (by omega) (by omega) (by omega))
  have HC2 := Lib.hid (fun W => l2Cut_exact c b W (by omega) (by omega) (by omega))
  clear ht b1 b2 h k hx1 hx2 hy1 hy2
  generalize lowX a d = X1 at *
  generalize lowY a d = Y1 at *
  generalize lowX c b = X2 at *
  generalize lowY c b = Y2 at *
  obtain ⟨x, hx⟩ : ∃ x, X1 * X2 = x := ⟨_, rfl⟩
  obtain ⟨y, hy⟩ : ∃ y, Y1 * Y2 = y := ⟨_, rfl⟩
  rw [hx] at m1 ⊢
  rw [hy] at m2 ⊢
  have hwx : IntKind.i64.wrap (X1 * X2) = x := by rw [hx]; exact IntWalk.i64_in _ (by omega)
  have hwy : IntKind.i64.wrap (Y1 * Y2) = y := by rw [hy]; exact IntWalk.i64_in _ (by omega)
  clear hx hy m1 m2
  go_enter Try.func109, Try.ntmps109
  go_wp2_with fail
  go_region_held3 (fun w' => w'.cell? ⟨w.heap.size, 0, none⟩ = some (.int .i64 a) ∧ w'.cell? ⟨w.heap.size, 1, none⟩ = some (.int .i64 b) ∧ w'.cell? ⟨w.heap.size + 1, 0, none⟩ = some (.int .i64 c) ∧ w'.cell? ⟨w.heap.size + 1, 1, none⟩ = some (.int .i64 d))
    (simp (maxDischargeDepth := 9) [go_sem])
    (first | (go_at_call_of 116 (Value.int .i64 a); refine (HC1.out _).mono ?_; rintro e w1 ⟨rfl, nq, rfl⟩) | (go_at_call_of 116 (Value.int .i64 c); refine (HC2.out _).mono ?_; rintro e w1 ⟨rfl, nq, rfl⟩))
  all_goals
    go_wp2
    exact bodyPost_ret (v := .agg #[.int .i64 x, .int .i64 y]) (by simp (maxDischargeDepth := 9) [results, Try.results109, go_sem]) rfl ⟨rfl, by (repeat (first | with_reducible exact Below.refl _ _ | with_reducible assumption | with_reducible refine Below.alloc' ?_ ?_ _ | with_reducible refine Below.setCell' ?_ ?_ _ | with_reducible refine Below.drewN' ?_ _ | with_reducible refine Below.drew ?_ | with_reducible refine Below.transA ?_ (by assumption) ?_ | omega | (focus (simp; done)) | (focus (simp; omega))))⟩

set_option maxHeartbeats 1000000 in
theorem specTimes_any (a b c d : Int) (w : World) :
    Calls Try.prog 38 #[.agg #[.int .i64 a, .int .i64 b], .agg #[.int .i64 c, .int .i64 d]] w fun e w' => e = .returned (FracV (if isFrac a b && isFrac c d then lowN (a * c) (b * d) else 0) (if isFrac a b && isFrac c d then lowM (a * c) (b * d) else 0) (isFrac a b && isFrac c d && lowOk (a * c) (b * d))) ∧ Below w.heap.size w w' := by
  cases hr1 : isFrac a b
  · have H1 := Lib.hid (l2Frac_r hr1)
    clear hr1
    go_enter Try.func38, Try.ntmps38
    go_wp2_with fail
    refine (H1.out _).mono ?_; rintro e w1 ⟨rfl, hb1⟩; (obtain ⟨hc1, hf1, hz1⟩ := bcell hb1; have hy1 := hb1.size; (try simp at hz1); (try simp at hy1); (try simp at hc1); (try simp at hf1))
    go_wp2
    refine bodyPost_ret (v := .tuple #[.agg #[.int .i64 0, .int .i64 0], .bool false]) (by simp (maxDischargeDepth := 9) [results, Try.results38, go_sem, *]) rfl ⟨by simp [FracV], ?_⟩
    (repeat (first | with_reducible exact Below.refl _ _ | with_reducible assumption | with_reducible refine Below.alloc' ?_ ?_ _ | with_reducible refine Below.setCell' ?_ ?_ _ | with_reducible refine Below.drewN' ?_ _ | with_reducible refine Below.drew ?_ | with_reducible refine Below.transA ?_ (by assumption) ?_ | omega | (focus (simp; done)) | (focus (simp; omega))))
  · have H1 := Lib.hid (l2Frac_r hr1)
    cases hr2 : isFrac c d
    · have H2 := Lib.hid (l2Frac_r hr2)
      clear hr1 hr2
      go_enter Try.func38, Try.ntmps38
      go_wp2_with fail
      refine (H1.out _).mono ?_; rintro e w1 ⟨rfl, hb1⟩; (obtain ⟨hc1, hf1, hz1⟩ := bcell hb1; have hy1 := hb1.size; (try simp at hz1); (try simp at hy1); (try simp at hc1); (try simp at hf1))
      go_wp2_with fail
      refine (H2.out _).mono ?_; rintro e w2 ⟨rfl, hb2⟩; (replace hb2 := hb1.trans (hb2.mono hb1.size); clear hc1 hf1 hz1 hy1 hb1; (obtain ⟨hc2, hf2, hz2⟩ := bcell hb2; have hy2 := hb2.size; (try simp at hz2); (try simp at hy2); (try simp at hc2); (try simp at hf2)))
      go_wp2
      refine bodyPost_ret (v := .tuple #[.agg #[.int .i64 0, .int .i64 0], .bool false]) (by simp (maxDischargeDepth := 9) [results, Try.results38, go_sem, *]) rfl ⟨by simp [FracV], ?_⟩
      (repeat (first | with_reducible exact Below.refl _ _ | with_reducible assumption | with_reducible refine Below.alloc' ?_ ?_ _ | with_reducible refine Below.setCell' ?_ ?_ _ | with_reducible refine Below.drewN' ?_ _ | with_reducible refine Below.drew ?_ | with_reducible refine Below.transA ?_ (by assumption) ?_ | omega | (focus (simp; done)) | (focus (simp; omega))))
    · have H2 := Lib.hid (l2Frac_r hr2)
      have p3 := frac_ne hr1 hr2
      have HL := Lib.hid (fun W => l2Times_any a b c d W hr1 hr2)
      have HK := Lib.hid (kept_r (a * c) (b * d) (by omega))
      clear hr1 hr2 p3
      generalize lowX (a * c) (b * d) = X at *
      generalize lowY (a * c) (b * d) = Y at *
      generalize lowN (a * c) (b * d) = N at *
      generalize lowM (a * c) (b * d) = M at *
      generalize lowOk (a * c) (b * d) = O at *
      go_enter Try.func38, Try.ntmps38
      go_wp2_with fail
      refine (H1.out _).mono ?_; rintro e w1 ⟨rfl, hb1⟩; (obtain ⟨hc1, hf1, hz1⟩ := bcell hb1; have hy1 := hb1.size; (try simp at hz1); (try simp at hy1); (try simp at hc1); (try simp at hf1))
      go_wp2_with fail
      refine (H2.out _).mono ?_; rintro e w2 ⟨rfl, hb2⟩; (replace hb2 := hb1.trans (hb2.mono hb1.size); clear hc1 hf1 hz1 hy1 hb1; (obtain ⟨hc2, hf2, hz2⟩ := bcell hb2; have hy2 := hb2.size; (try simp at hz2); (try simp at hy2); (try simp at hc2); (try simp at hf2)))
      go_wp2_with fail
      refine (HL.out _).mono ?_; rintro e w3 ⟨rfl, hb3⟩; (replace hb3 := hb2.trans (hb3.mono hb2.size); clear hc2 hf2 hz2 hy2 hb2; (obtain ⟨hc3, hf3, hz3⟩ := bcell hb3; have hy3 := hb3.size; (try simp at hz3); (try simp at hy3); (try simp at hc3); (try simp at hf3)))
      go_wp2_with fail
      refine (HK.out _).mono ?_; rintro e w4 ⟨rfl, hb4⟩; (replace hb4 := hb3.trans (hb4.mono hb3.size); clear hc3 hf3 hz3 hy3 hb3; (obtain ⟨hc4, hf4, hz4⟩ := bcell hb4; have hy4 := hb4.size; (try simp at hz4); (try simp at hy4); (try simp at hc4); (try simp at hf4)))
      go_wp2
      refine bodyPost_ret (v := .tuple #[.agg #[.int .i64 N, .int .i64 M], .bool O]) (by simp (maxDischargeDepth := 9) [results, Try.results38, go_sem, *]) rfl ⟨by simp [FracV], ?_⟩
      (repeat (first | with_reducible exact Below.refl _ _ | with_reducible assumption | with_reducible refine Below.alloc' ?_ ?_ _ | with_reducible refine Below.setCell' ?_ ?_ _ | with_reducible refine Below.drewN' ?_ _ | with_reducible refine Below.drew ?_ | with_reducible refine Below.transA ?_ (by assumption) ?_ | omega | (focus (simp; done)) | (focus (simp; omega))))
end Go.Proofs.Ytombfbmcplefgaa
/- Plain: what the law of fractions leans on. -/
namespace Go.Proofs.Ytombfbmcplefgaa
open Go.ChangeShapes Go.WideShapes Go.ChangeAt Go.RowKit

def addOk (a b c d : Int) : Bool := isFrac a b && isFrac c d && lowOk (a * d + c * b) (b * d)
def addN (a b c d : Int) : Int := if isFrac a b && isFrac c d then lowN (a * d + c * b) (b * d) else 0
def addM (a b c d : Int) : Int := if isFrac a b && isFrac c d then lowM (a * d + c * b) (b * d) else 0
def tmOk (a b c d : Int) : Bool := isFrac a b && isFrac c d && lowOk (a * c) (b * d)
def tmN (a b c d : Int) : Int := if isFrac a b && isFrac c d then lowN (a * c) (b * d) else 0
def tmM (a b c d : Int) : Int := if isFrac a b && isFrac c d then lowM (a * c) (b * d) else 0
def cmOk (a b c d : Int) : Bool := isFrac a b && isFrac c d
def cmV (a b c d : Int) : Int := if isFrac a b && isFrac c d then cmpF a b c d else 0
theorem fr_comm (a b c d : Int) : addN c d a b = addN a b c d ∧ addM c d a b = addM a b c d ∧ addOk c d a b = addOk a b c d := by
  have e1 : c * b + a * d = a * d + c * b := Int.add_comm _ _
  have e2 : d * b = b * d := Int.mul_comm _ _
  unfold addN addM addOk
  rw [e1, e2, Bool.and_comm (isFrac c d)]
  exact ⟨rfl, rfl, rfl⟩
theorem tm_comm (a b c d : Int) : tmN c d a b = tmN a b c d ∧ tmM c d a b = tmM a b c d ∧ tmOk c d a b = tmOk a b c d := by
  have e1 : c * a = a * c := Int.mul_comm _ _
  have e2 : d * b = b * d := Int.mul_comm _ _
  unfold tmN tmM tmOk
  rw [e1, e2, Bool.and_comm (isFrac c d)]
  exact ⟨rfl, rfl, rfl⟩
theorem low_in {a b : Int} (hb : b ≠ 0) (h : lowOk a b = true) : lowN a b = lowX a b ∧ lowM a b = lowY a b ∧ isFrac (lowX a b) (lowY a b) = true := by
  refine ⟨?_, ?_, by rw [isFrac_low a b hb]; exact h⟩
  · unfold lowN; rw [if_pos h]
  · unfold lowM; rw [if_pos h]
theorem fr_parts {a b c d : Int} (h : addOk a b c d = true) : isFrac a b = true ∧ isFrac c d = true ∧ addN a b c d = lowX (a * d + c * b) (b * d) ∧ addM a b c d = lowY (a * d + c * b) (b * d) ∧ isFrac (addN a b c d) (addM a b c d) = true := by
  unfold addOk at h
  obtain ⟨h1, h2⟩ := Bool.and_eq_true_iff.1 h
  obtain ⟨h3, h4⟩ := Bool.and_eq_true_iff.1 h1
  have hb := (frac_ne h3 h4).1
  have hl := low_in (a := a * d + c * b) (b := b * d) (by omega) h2
  unfold addN addM
  rw [h1, if_pos rfl, if_pos rfl, hl.1, hl.2.1]
  exact ⟨h3, h4, rfl, rfl, hl.2.2⟩
theorem tm_in {a b c d : Int} (h : tmOk a b c d = true) : isFrac (tmN a b c d) (tmM a b c d) = true := by
  unfold tmOk at h
  obtain ⟨h1, h2⟩ := Bool.and_eq_true_iff.1 h
  obtain ⟨h3, h4⟩ := Bool.and_eq_true_iff.1 h1
  have hb := (frac_ne h3 h4).1
  have hl := low_in (a := a * c) (b := b * d) (by omega) h2
  unfold tmN tmM
  rw [h1, if_pos rfl, if_pos rfl, hl.1, hl.2.1]
  exact hl.2.2
theorem frac_neg {c d : Int} (h : isFrac c d = true) : isFrac (-c) d = true := by
  have := of_decide_eq_true h
  obtain ⟨h1, h2, h3, h4, h5⟩ := this
  exact decide_eq_true ⟨by omega, by omega, h3, h4, by rw [Int.neg_gcd]; exact h5⟩
theorem frac_low {x y : Int} (h : isFrac x y = true) : lowX x y = x ∧ lowY x y = y ∧ lowOk x y = true := by
  have hf := of_decide_eq_true h
  obtain ⟨h1, h2, h3, h4, h5⟩ := hf
  have hl := low_self h3 h5
  refine ⟨hl.1, hl.2, ?_⟩
  have := isFrac_low x y (by omega)
  rw [hl.1, hl.2] at this
  rw [← this]; exact h
/-- A sum less its second part is its first part. -/
theorem fr_back {a b c d : Int} (h : addOk a b c d = true) :
    addN (addN a b c d) (addM a b c d) (-c) d = a ∧ addM (addN a b c d) (addM a b c d) (-c) d = b ∧ addOk (addN a b c d) (addM a b c d) (-c) d = true := by
  obtain ⟨h1, h2, eN, eM, hS⟩ := fr_parts h
  have hb := (frac_ne h1 h2).1
  have hm := low_mul (a * d + c * b) (b * d)
  have hD := lowD_ne (a * d + c * b) (b * d) (by omega)
  rw [← eN, ← eM] at hm
  have hN := frac_neg h2
  have hY := (frac_ne hS hN).1
  have key : addN a b c d * (b * d) = (a * d + c * b) * addM a b c d := by
    have : lowD (a * d + c * b) (b * d) * (addN a b c d * (b * d)) = lowD (a * d + c * b) (b * d) * ((a * d + c * b) * addM a b c d) := by
      have e9 : lowD (a * d + c * b) (b * d) * ((a * d + c * b) * addM a b c d) = (a * d + c * b) * (lowD (a * d + c * b) (b * d) * addM a b c d) := Int.mul_left_comm _ _ _
      rw [← Int.mul_assoc, hm.1, e9, hm.2]
    exact Int.eq_of_mul_eq_mul_left hD this
  generalize addN a b c d = X at *
  generalize addM a b c d = Y at *
  have ha := of_decide_eq_true h1
  obtain ⟨_, _, ha3, _, ha5⟩ := ha
  have hu := low_unique (a := X * d + -c * Y) (b := Y * d) (x := a) (y := b) (by omega) ha3 ha5 (by
    have e1 : (X * d + -c * Y) * b = X * (b * d) - c * b * Y := by
      rw [Int.add_mul, Int.neg_mul, Int.neg_mul, ← Int.sub_eq_add_neg]
      congr 1
      · rw [Int.mul_assoc, Int.mul_comm d b]
      · rw [Int.mul_assoc, Int.mul_assoc, Int.mul_comm Y b]
    rw [e1, key, Int.add_mul, Int.add_sub_cancel, Int.mul_assoc, Int.mul_comm d Y])
  have hok : lowOk (X * d + -c * Y) (Y * d) = true := by
    have := isFrac_low (X * d + -c * Y) (Y * d) (by omega)
    rw [hu.1, hu.2] at this
    rw [← this]; exact h1
  have hl := low_in (a := X * d + -c * Y) (b := Y * d) (by omega) hok
  unfold addN addM addOk
  rw [hS, hN, Bool.true_and, if_pos rfl, if_pos rfl, hl.1, hl.2.1, hu.1, hu.2, hok]
  exact ⟨rfl, rfl, rfl⟩
theorem fo_neg {c d : Int} (h : isFrac c d = true) : foN (-c) d = -c ∧ foM (-c) d = d ∧ foOk (-c) d = true := by
  have hN := frac_neg h
  have hf := frac_bd h
  have hl := frac_low hN
  have ho : foOk (-c) d = true := by
    unfold foOk; rw [hl.2.2, Bool.and_true]; exact decide_eq_true ⟨by omega, by omega, by omega⟩
  refine ⟨?_, ?_, ho⟩
  · unfold foN; rw [if_pos ho]; exact hl.1
  · unfold foM; rw [if_pos ho]; exact hl.2.1
theorem fo_is {a b : Int} (h : foOk a b = true) : isFrac (foN a b) (foM a b) = true := by
  have h2 := h
  unfold foOk at h2
  obtain ⟨h3, h4⟩ := Bool.and_eq_true_iff.1 h2
  have h5 := of_decide_eq_true h3
  unfold foN foM
  rw [if_pos h, if_pos h]
  exact (low_in h5.1 h4).2.2
theorem cm_turn (a b c d : Int) : cmV c d a b = -cmV a b c d ∧ cmOk c d a b = cmOk a b c d := by
  unfold cmV cmOk
  rw [Bool.and_comm (isFrac c d)]
  refine ⟨?_, rfl⟩
  split
  · unfold cmpF
    by_cases h1 : a * d < c * b
    · have h2 : ¬ c * b < a * d := by omega
      simp [h1, h2]
    · by_cases h2 : c * b < a * d
      · simp [h1, h2]
      · simp [h1, h2]
  · rfl
theorem cm_bd (a b c d : Int) : -1 ≤ cmV a b c d ∧ cmV a b c d ≤ 1 := by
  unfold cmV cmpF
  repeat' split
  all_goals decide
end Go.Proofs.Ytombfbmcplefgaa
