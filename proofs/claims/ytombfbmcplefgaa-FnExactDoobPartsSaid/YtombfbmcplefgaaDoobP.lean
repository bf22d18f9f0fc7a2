/- Plain: the parts of a process. Contracts: l2Add at a whole number. -/
import Derived.Test.YtombfbmcplefgaaDriftsOf
import Derived.Test.YtombfbmcplefgaaMathF
import Derived.Test.YtombfbmcplefgaaFrac5
namespace Go.Proofs.Ytombfbmcplefgaa
open Go.ChangeShapes Go.WideShapes Go.ChangeAt Go.RowKit

set_option maxHeartbeats 2000000 in
set_option maxRecDepth 100000 in
theorem l2Add_one (a b c d : Int) (w : World) (ha : -999 ≤ a ∧ a ≤ 999) (hb : 1 ≤ b ∧ b ≤ 1) (hc : -24000000000000 ≤ c ∧ c ≤ 24000000000000) (hd : 1 ≤ d ∧ d ≤ 480000000) :
    Calls Try.prog 101 #[.agg #[.int .i64 a, .int .i64 b], .agg #[.int .i64 c, .int .i64 d]] w fun e w' => e = .returned (.agg #[.int .i64 (lowX (a * d + c * b) (b * d)), .int .i64 (lowY (a * d + c * b) (b * d))]) ∧ Below w.heap.size w w' := by
  obtain ⟨b', d', eb, ed⟩ := gcd_split b d
  have hk := gcd_pos b d (by omega)
  have hkl := gcd_le b d (by omega)
  obtain ⟨k, hgk⟩ : ∃ k : Int, (Int.gcd b d : Int) = k := ⟨_, rfl⟩
  rw [hgk] at eb ed hk hkl
  have hg : Hid ((Int.gcd b d : Int) = k) := hgk
  clear hgk
  have tb : b.tdiv k = b' := by rw [eb]; exact Int.mul_tdiv_cancel_left _ (by omega)
  have td : d.tdiv k = d' := by rw [ed]; exact Int.mul_tdiv_cancel_left _ (by omega)
  have bb := tdiv_bd b k 1 (by omega) (by omega)
  have bd := tdiv_bd d k 480000000 (by omega) (by omega)
  rw [tb] at bb
  rw [td] at bd
  have b1 : 1 ≤ b' := by
    rcases Int.lt_or_le 0 b' with h | h
    · omega
    · have := Int.mul_nonpos_of_nonneg_of_nonpos (a := k) (b := b') (by omega) h
      omega
  have d1 : 1 ≤ d' := by
    rcases Int.lt_or_le 0 d' with h | h
    · omega
    · have := Int.mul_nonpos_of_nonneg_of_nonpos (a := k) (b := d') (by omega) h
      omega
  have m1 := mul_bd (a := a) (d := d') (A := 999) (D := 480000000) (by omega) (by omega)
  have m2 := mul_bd (a := c) (d := b') (A := 24000000000000) (D := 1) (by omega) (by omega)
  have m3 := mul_bd (a := b') (d := d) (A := 1) (D := 480000000) (by omega) (by omega)
  have q1 : 1 * 1 ≤ b' * d := Int.mul_le_mul (by omega) (by omega) (by omega) (by omega)
  have q2 : 1 * 1 ≤ b * d := Int.mul_le_mul (by omega) (by omega) (by omega) (by omega)
  have hs : lowX (a * d' + c * b') (b' * d) = lowX (a * d + c * b) (b * d) ∧ lowY (a * d' + c * b') (b' * d) = lowY (a * d + c * b) (b * d) := by
    refine low_same (by omega) (by omega) ?_
    have e1 : a * d + c * b = k * (a * d' + c * b') := by
      rw [Int.mul_add]
      congr 1
      · conv => lhs; rw [ed]
        rw [Int.mul_left_comm]
      · conv => lhs; rw [eb]
        rw [Int.mul_left_comm]
    have e2 : b * d = k * (b' * d) := by
      conv => lhs; arg 1; rw [eb]
      rw [Int.mul_assoc]
    rw [e1, e2, Int.mul_left_comm, Int.mul_assoc]
  rw [← hs.1, ← hs.2]
  clear hs eb ed q2
  obtain ⟨x, hx⟩ : ∃ x, a * d' = x := ⟨_, rfl⟩
  obtain ⟨y, hy⟩ : ∃ y, c * b' = y := ⟨_, rfl⟩
  obtain ⟨q, hq⟩ : ∃ q, b' * d = q := ⟨_, rfl⟩
  rw [hx] at m1 ⊢
  rw [hy] at m2 ⊢
  rw [hq] at m3 q1 ⊢
  have hwx : IntKind.i64.wrap (a * d') = x := by rw [hx]; exact IntWalk.i64_in _ (by omega)
  have hwy : IntKind.i64.wrap (c * b') = y := by rw [hy]; exact IntWalk.i64_in _ (by omega)
  have hwq : IntKind.i64.wrap (b' * d) = q := by rw [hq]; exact IntWalk.i64_in _ (by omega)
  have hwxy : IntKind.i64.wrap (x + y) = x + y := IntWalk.i64_in _ (by omega)
  have hwb : IntKind.i64.wrap b' = b' := IntWalk.i64_in _ (by omega)
  have hwd : IntKind.i64.wrap d' = d' := IntWalk.i64_in _ (by omega)
  have HL := Lib.hid (fun W => l2Cut_any (x + y) q W (by omega) (by omega) (by omega))
  have HG := Lib.hid (fun W => l2Gcd_d b d k W hg (by omega) (by omega))
  have hz : (k == 0) = false := by simp; omega
  have hz0 : ¬ k = 0 := by omega
  clear hx hy hq m1 m2 m3 hg bb bd
  generalize lowX (x + y) q = X at *
  generalize lowY (x + y) q = Y at *
  go_enter Try.func101, Try.ntmps101
  go_wp2_with fail
  refine (HG.out _).mono ?_; rintro e w1 ⟨rfl, nq, rfl⟩
  go_wp2_with fail
  go_region_held3 (fun w' => w'.cell? ⟨w.heap.size, 0, none⟩ = some (.int .i64 a) ∧ w'.cell? ⟨w.heap.size, 1, none⟩ = some (.int .i64 b) ∧ w'.cell? ⟨w.heap.size + 1, 0, none⟩ = some (.int .i64 c) ∧ w'.cell? ⟨w.heap.size + 1, 1, none⟩ = some (.int .i64 d) ∧ (w'.cell? ⟨w.heap.size + 1 + 1, 0, none⟩).isSome = true ∧ (w'.cell? ⟨w.heap.size + 1 + 1, 1, none⟩).isSome = true ∧ w'.frozen? ⟨w.heap.size + 1 + 1, 0, none⟩ = false ∧ w'.frozen? ⟨w.heap.size + 1 + 1, 1, none⟩ = false ∧ Below w.heap.size w w')
    (first | (simp; ((repeat (first | with_reducible exact Below.refl _ _ | with_reducible assumption | with_reducible refine Below.alloc' ?_ ?_ _ | with_reducible refine Below.setCell' ?_ ?_ _ | with_reducible refine Below.drewN' ?_ _ | with_reducible refine Below.drew ?_ | with_reducible refine Below.transA ?_ (by assumption) ?_ | omega | (focus (simp; done)) | (focus (simp; omega)))); done)) | (go_split_ands; (repeat' (refine And.intro ?_ ?_)) <;> first | exact keep_cell hb1 (by assumption) | exact keep_some hb1 (by assumption) | exact keep_froz hb1 (by assumption) (by assumption) | exact keep_below hb1 (by assumption)) | (go_split_ands; (repeat' (refine And.intro ?_ ?_)) <;> first | (((repeat (first | with_reducible exact Below.refl _ _ | with_reducible assumption | with_reducible refine Below.alloc' ?_ ?_ _ | with_reducible refine Below.setCell' ?_ ?_ _ | with_reducible refine Below.drewN' ?_ _ | with_reducible refine Below.drew ?_ | with_reducible refine Below.transA ?_ (by assumption) ?_ | omega | (focus (simp; done)) | (focus (simp; omega)))); done)) | (simp (maxDischargeDepth := 9) [*, go_sem]; done)))
    (first | (go_at_call 116; refine (HL.out _).mono ?_; rintro e w1 ⟨rfl, hb1⟩; (obtain ⟨hc1, hf1, hz1⟩ := bcell hb1; have hy1 := hb1.size; (try simp at hz1); (try simp at hy1); (try simp at hc1); (try simp at hf1))))
  go_split_ands
  go_wp2
  exact bodyPost_ret (v := .agg #[.int .i64 X, .int .i64 Y]) (by simp (maxDischargeDepth := 9) [results, Try.results101, go_sem, *]) rfl ⟨rfl, by assumption⟩
theorem l2Add_whole (n s r : Int) (w : World) (ha : -999 ≤ n ∧ n ≤ 999) (hc : -24000000000000 ≤ s ∧ s ≤ 24000000000000) (hd : 1 ≤ r ∧ r ≤ 480000000) :
    Calls Try.prog 101 #[.agg #[.int .i64 n, .int .i64 1], .agg #[.int .i64 (-s), .int .i64 r]] w fun e w' => e = .returned (.agg #[.int .i64 (lowX (n * r - s) r), .int .i64 (lowY (n * r - s) r)]) ∧ Below w.heap.size w w' := by
  have := l2Add_one n 1 (-s) r w ha (by omega) (by omega) hd
  rw [Int.mul_one, Int.one_mul, ← Int.sub_eq_add_neg] at this
  exact this
def dbSum (xs ys ps : List Int) (K : List (Int × Int)) (x : Nat) : Int × Int :=
  if x = 0 then (0, 1) else
    (lowX ((nthp K (nth xs x).toNat).1 * (dftP xs ys ps (nth xs x).toNat).2 + (dftP xs ys ps (nth xs x).toNat).1 * (nthp K (nth xs x).toNat).2) ((nthp K (nth xs x).toNat).2 * (dftP xs ys ps (nth xs x).toNat).2),
     lowY ((nthp K (nth xs x).toNat).1 * (dftP xs ys ps (nth xs x).toNat).2 + (dftP xs ys ps (nth xs x).toNat).1 * (nthp K (nth xs x).toNat).2) ((nthp K (nth xs x).toNat).2 * (dftP xs ys ps (nth xs x).toNat).2))
def dbRest (ps : List Int) (s : Int × Int) (x : Nat) : Int × Int := (lowX (nth ps x * s.2 - s.1) s.2, lowY (nth ps x * s.2 - s.1) s.2)
def dbK (xs ys ps : List Int) : Nat → List (Int × Int)
  | 0 => []
  | k + 1 => dbK xs ys ps k ++ [dbSum xs ys ps (dbK xs ys ps k) k]
def dbS (xs ys ps : List Int) (x : Nat) : Int × Int := dbSum xs ys ps (dbK xs ys ps x) x
def dbR (xs ys ps : List Int) (x : Nat) : Int × Int := dbRest ps (dbS xs ys ps x) x
def dbF (xs ys ps : List Int) (k : Nat) : List (Int × Int) := (List.range k).map (dbR xs ys ps)
theorem dbF_succ (xs ys ps : List Int) (k : Nat) : dbF xs ys ps (k + 1) = dbF xs ys ps k ++ [dbR xs ys ps k] := by
  unfold dbF; rw [List.range_succ, List.map_append]; rfl
theorem dbF_len (xs ys ps : List Int) (k : Nat) : (dbF xs ys ps k).length = k := by simp [dbF]
theorem dbK_len (xs ys ps : List Int) (k : Nat) : (dbK xs ys ps k).length = k := by
  induction k with
  | zero => rfl
  | succ k ih => unfold dbK; simp [ih]
theorem dbK_succ (xs ys ps : List Int) (k : Nat) : dbK xs ys ps (k + 1) = dbK xs ys ps k ++ [dbS xs ys ps k] := rfl
theorem nthp_lt {L M : List (Int × Int)} {j : Nat} (h : j < L.length) : nthp (L ++ M) j = nthp L j := by
  unfold nthp; simp [List.getD, List.getElem?_append_left h]
theorem nthp_end (L : List (Int × Int)) (a : Int × Int) : nthp (L ++ [a]) L.length = a := by
  unfold nthp; simp [List.getD]
theorem dbK_nth (xs ys ps : List Int) {k j : Nat} (h : j < k) : nthp (dbK xs ys ps k) j = dbS xs ys ps j := by
  induction k with
  | zero => omega
  | succ k ih =>
    rw [dbK_succ]
    by_cases e : j = k
    · subst e
      conv => lhs; arg 2; rw [← dbK_len xs ys ps j]
      exact nthp_end _ _
    · rw [nthp_lt (by rw [dbK_len]; omega)]; exact ih (by omega)
theorem dftK_nth (xs ys ps : List Int) {k j : Nat} (h : j < k) : nthp (dftK xs ys ps k) j = dftP xs ys ps j := by
  unfold nthp dftK; simp [List.getD, h]
def dbOne (xs ys ps : List Int) (x : Nat) : Bool := isFrac (dbS xs ys ps x).1 (dbS xs ys ps x).2 && isFrac (dbR xs ys ps x).1 (dbR xs ys ps x).2
def dbAll (xs ys ps : List Int) (n : Nat) : Bool := (List.range n).all (dbOne xs ys ps)
theorem dbAll_no {xs ys ps : List Int} {n j : Nat} (hj : j < n) (h : dbOne xs ys ps j = false) : dbAll xs ys ps n = false := by
  unfold dbAll; rw [List.all_eq_false]; exact ⟨j, List.mem_range.2 hj, by rw [h]; simp⟩
theorem dbAll_yes {xs ys ps : List Int} {n : Nat} (h : ∀ j, j < n → dbOne xs ys ps j = true) : dbAll xs ys ps n = true := by
  unfold dbAll; rw [List.all_eq_true]; exact fun j hj => h j (List.mem_range.1 hj)
theorem low_bd {a b A B : Int} (hA : 0 ≤ A) (ha : -A ≤ a ∧ a ≤ A) (hb : 1 ≤ b ∧ b ≤ B) : (-A ≤ lowX a b ∧ lowX a b ≤ A) ∧ 1 ≤ lowY a b ∧ lowY a b ≤ B :=
  ⟨tdiv_bd a (lowD a b) A hA ha, lowY_pos a b (by omega), (tdiv_bd b (lowD a b) B (by omega) (by omega)).2⟩
theorem low_isFrac {a b : Int} (ha : -1000000000 ≤ a ∧ a ≤ 1000000000) (hb : 1 ≤ b ∧ b ≤ 1000000) : isFrac (lowX a b) (lowY a b) = true := by
  rw [isFrac_low a b (by omega)]; exact (drift_low ha hb).1
theorem dft_frac {xs ys ps : List Int} (hg : good xs ys = true) (hp : ∀ j, -999 ≤ nth ps j ∧ nth ps j ≤ 999) {x : Nat} (hx : x < xs.length) :
    isFrac (dftP xs ys ps x).1 (dftP xs ys ps x).2 = true ∧ (-23016960 ≤ (dftP xs ys ps x).1 ∧ (dftP xs ys ps x).1 ≤ 23016960) ∧ 1 ≤ (dftP xs ys ps x).2 ∧ (dftP xs ys ps x).2 ≤ 480 := by
  have h1 := dft_bd hg hp x
  have h2 := sums_one hg hx
  have h3 := sums_bd hg x
  have h4 := low_bd (a := dftN xs ys ps x) (b := nth (sumsL xs ys) x) (A := 23016960) (B := 480) (by omega) h1 (by omega)
  exact ⟨low_isFrac (by omega) (by omega), h4.1, h4.2⟩
theorem db_root (xs ys ps : List Int) : dbS xs ys ps 0 = (0, 1) := rfl
/-- The known part at a node below another one. -/
theorem db_step {xs ys ps : List Int} (hg : good xs ys = true) (hp : ∀ j, -999 ≤ nth ps j ∧ nth ps j ≤ 999) {x p : Nat} (h1 : 1 ≤ x) (hx : x < xs.length) (hpx : nth xs x = p) (hl : p < x) (hf : isFrac (dbS xs ys ps p).1 (dbS xs ys ps p).2 = true) :
    dbS xs ys ps x = (lowX ((dbS xs ys ps p).1 * (dftP xs ys ps p).2 + (dftP xs ys ps p).1 * (dbS xs ys ps p).2) ((dbS xs ys ps p).2 * (dftP xs ys ps p).2), lowY ((dbS xs ys ps p).1 * (dftP xs ys ps p).2 + (dftP xs ys ps p).1 * (dbS xs ys ps p).2) ((dbS xs ys ps p).2 * (dftP xs ys ps p).2)) ∧
    ((dbS xs ys ps p).2 * (dftP xs ys ps p).2 ≠ 0) ∧ (-24000000000000 ≤ (dbS xs ys ps x).1 ∧ (dbS xs ys ps x).1 ≤ 24000000000000) ∧ 1 ≤ (dbS xs ys ps x).2 ∧ (dbS xs ys ps x).2 ≤ 480000000 := by
  have e : dbS xs ys ps x = (lowX ((dbS xs ys ps p).1 * (dftP xs ys ps p).2 + (dftP xs ys ps p).1 * (dbS xs ys ps p).2) ((dbS xs ys ps p).2 * (dftP xs ys ps p).2), lowY ((dbS xs ys ps p).1 * (dftP xs ys ps p).2 + (dftP xs ys ps p).1 * (dbS xs ys ps p).2) ((dbS xs ys ps p).2 * (dftP xs ys ps p).2)) := by
    conv => lhs; unfold dbS dbSum
    rw [if_neg (by omega), hpx, Int.toNat_natCast, dbK_nth xs ys ps hl]
  obtain ⟨f1, f2, f3, f4⟩ := frac_bd hf
  obtain ⟨_, d1, d2, d3⟩ := dft_frac hg hp (x := p) (by omega)
  have m1 := mul_bd (a := (dbS xs ys ps p).1) (d := (dftP xs ys ps p).2) (A := 1000000000) (D := 480) (by omega) (by omega)
  have m2 := mul_bd (a := (dftP xs ys ps p).1) (d := (dbS xs ys ps p).2) (A := 23016960) (D := 1000000) (by omega) (by omega)
  have m3 := mul_bd (a := (dbS xs ys ps p).2) (d := (dftP xs ys ps p).2) (A := 1000000) (D := 480) (by omega) (by omega)
  have m4 : 1 * 1 ≤ (dbS xs ys ps p).2 * (dftP xs ys ps p).2 := Int.mul_le_mul (by omega) (by omega) (by omega) (by omega)
  have b := low_bd (a := (dbS xs ys ps p).1 * (dftP xs ys ps p).2 + (dftP xs ys ps p).1 * (dbS xs ys ps p).2) (b := (dbS xs ys ps p).2 * (dftP xs ys ps p).2) (A := 24000000000000) (B := 480000000) (by omega) (by omega) (by omega)
  refine ⟨e, by omega, ?_, ?_⟩
  · rw [e]; exact b.1
  · rw [e]; exact b.2
noncomputable def dbOk (xs ys ps : List Int) : Bool := procOk xs ys ps && dbAll xs ys ps xs.length
def dbPick : Bool → List (Int × Int) → List (Int × Int)
  | true, L => L
  | false, _ => []
noncomputable def dbRF (xs ys ps : List Int) : List (Int × Int) := dbPick (dbOk xs ys ps) (dbF xs ys ps xs.length)
noncomputable def dbRK (xs ys ps : List Int) : List (Int × Int) := dbPick (dbOk xs ys ps) (dbK xs ys ps xs.length)
theorem dbOk_no {xs ys ps : List Int} (h : procOk xs ys ps = false) : dbOk xs ys ps = false := by unfold dbOk; rw [h]; rfl
theorem dbOk_yes {xs ys ps : List Int} (h : procOk xs ys ps = true) : dbOk xs ys ps = dbAll xs ys ps xs.length := by unfold dbOk; rw [h]; rfl
theorem dbRF_no {xs ys ps : List Int} (h : procOk xs ys ps = false) : dbRF xs ys ps = [] := by unfold dbRF; rw [dbOk_no h]; rfl
theorem dbRK_no {xs ys ps : List Int} (h : procOk xs ys ps = false) : dbRK xs ys ps = [] := by unfold dbRK; rw [dbOk_no h]; rfl
theorem dbRF_yes {xs ys ps : List Int} (h : procOk xs ys ps = true) : dbRF xs ys ps = dbPick (dbAll xs ys ps xs.length) (dbF xs ys ps xs.length) := by unfold dbRF; rw [dbOk_yes h]
theorem dbRK_yes {xs ys ps : List Int} (h : procOk xs ys ps = true) : dbRK xs ys ps = dbPick (dbAll xs ys ps xs.length) (dbK xs ys ps xs.length) := by unfold dbRK; rw [dbOk_yes h]
theorem dbRF_len (xs ys ps : List Int) (hn : xs.length ≤ 1048576) : (dbRF xs ys ps).length ≤ 2000000 := by
  unfold dbRF
  cases dbOk xs ys ps with
  | false => simp [dbPick]
  | true => show (dbF _ _ _ _).length ≤ _; rw [dbF_len]; omega
theorem dbRK_len (xs ys ps : List Int) (hn : xs.length ≤ 1048576) : (dbRK xs ys ps).length ≤ 2000000 := by
  unfold dbRK
  cases dbOk xs ys ps with
  | false => simp [dbPick]
  | true => show (dbK _ _ _ _).length ≤ _; rw [dbK_len]; omega
set_option maxHeartbeats 1000000 in
set_option maxRecDepth 100000 in
theorem markIntA2S_ap (A A' : Option Addr) (c : Nat) (L M : List (Int × Int)) (s : Int) (w : World) (B : Nat) (h : OwnS2 w B A L) (k : OwnS2 w B A' M) (hd : ∀ g g' : Nat, A = some ⟨g, 0, none⟩ → A' = some ⟨g', 0, none⟩ → g ≠ g') (hn : L.length ≤ 2000000) (h0 : 0 ≤ s) (h1 : s ≤ 100000000) :
    Calls Try.prog 31 #[.slice A L.length c, .int .i64 s] w fun e w' => e = .returned (.int .i64 (s + ((L.length * 2 : Nat) : Int))) ∧ OwnS2 w' B A (pmarks s L.length) ∧ OwnS2 w' B A' M ∧ ∃ g, B ≤ g ∧ KeptBut w w' g g := by
  rcases h with ⟨rfl, rfl⟩ | ⟨g, rfl, hB, hr⟩
  · go_enter Try.func31, Try.ntmps31
    go_wp2
    refine wp_loop_rounds 1 ?_
    rw [rounds_succ]
    go_wp2
    go_ret
    exact ⟨by simp, .inl ⟨rfl, rfl⟩, k, B, Nat.le_refl _, rfl, rfl, rfl, Nat.le_refl _, fun _ _ _ _ => rfl⟩
  · refine (markIntA2S_row g c L s w hr hn h0 h1).mono fun e w' ⟨he, hr', hg⟩ => ⟨he, .inr ⟨g, rfl, hB, hr'⟩, ?_, g, hB, hg.os, hg.tape, hg.output, hg.size, fun k hk hp _ => hg.block k hk (fun e => hp (by injection e))⟩
    rcases k with k | ⟨g', hA', hB', hr2⟩
    · exact .inl k
    · exact .inr ⟨g', hA', hB', hr2.grown hg (fun e => hd g g' rfl hA' (by injection e))⟩
/-- A call that hands back two new lists of pairs, apart in memory, and whether there are such. -/
def RetPPB (w : World) (L M : List (Int × Int)) (r : Bool) (e : Ending) (w' : World) : Prop := ∃ A c A' c', e = .returned (.tuple #[.slice A L.length c, .slice A' M.length c', .bool r]) ∧ OwnS2 w' w.heap.size A L ∧ OwnS2 w' w.heap.size A' M ∧ (∀ g g' : Nat, A = some ⟨g, 0, none⟩ → A' = some ⟨g', 0, none⟩ → g ≠ g') ∧ Below w.heap.size w w'
end Go.Proofs.Ytombfbmcplefgaa
