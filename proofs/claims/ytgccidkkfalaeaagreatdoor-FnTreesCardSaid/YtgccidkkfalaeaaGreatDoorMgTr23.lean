/- Contracts: the gains of stakes. -/
import Derived.IntWalk
import Derived.Test.YtgccidkkfalaeaaGreatDoorMgTr10
import Derived.Test.YtgccidkkfalaeaaGreatDoorMgTr17
import Derived.Test.YtgccidkkfalaeaaGreatDoorMgTr9
namespace Go.Proofs.YtgccidkkfalaeaaGreatDoor
open Go.ChangeShapes Go.WideShapes Go.ChangeAt Go.RowKit

theorem allIn_nth {zs : List Int} {lo hi : Int} (h : allIn zs lo hi = true) (h0 : lo ≤ 0 ∧ 0 ≤ hi) (j : Nat) : lo ≤ nth zs j ∧ nth zs j ≤ hi := by
  by_cases hj : j < zs.length
  · exact allIn_iff.1 h j hj
  · rw [nth_out (by omega)]; exact h0
theorem isProc_iff {n : Nat} {zs : List Int} (h : isProc n zs = true) : zs.length = n ∧ ∀ j, -999 ≤ nth zs j ∧ nth zs j ≤ 999 := by
  unfold isProc at h
  rw [Bool.and_eq_true] at h
  exact ⟨of_decide_eq_true h.1, allIn_nth h.2 (by omega)⟩
/-- Stakes of a tree with n nodes. -/
def isStk (n : Nat) (zs : List Int) : Bool := decide (zs.length = n) && allIn zs (-20) 20
theorem isStk_iff {n : Nat} {zs : List Int} (h : isStk n zs = true) : zs.length = n ∧ ∀ j, -20 ≤ nth zs j ∧ nth zs j ≤ 20 := by
  unfold isStk at h
  rw [Bool.and_eq_true] at h
  exact ⟨of_decide_eq_true h.1, allIn_nth h.2 (by omega)⟩
/-- The gains at the first k nodes. -/
def stkG (xs ps ss : List Int) : Nat → List Int
  | 0 => []
  | 1 => [0]
  | k + 1 => stkG xs ps ss k ++ [nth (stkG xs ps ss k) (nth xs k).toNat + nth ss (nth xs k).toNat * (nth ps k - nth ps (nth xs k).toNat)]
theorem stkG_succ (xs ps ss : List Int) {k : Nat} (hk : 1 ≤ k) : stkG xs ps ss (k + 1) = stkG xs ps ss k ++ [nth (stkG xs ps ss k) (nth xs k).toNat + nth ss (nth xs k).toNat * (nth ps k - nth ps (nth xs k).toNat)] := by
  cases k with
  | zero => omega
  | succ k => rfl
theorem stkG_len (xs ps ss : List Int) (k : Nat) : (stkG xs ps ss k).length = k := by
  induction k with
  | zero => rfl
  | succ k ih =>
    cases k with
    | zero => rfl
    | succ k => rw [stkG_succ _ _ _ (by omega)]; simp [ih]
theorem stk_mul {s a b : Int} (hs : -20 ≤ s ∧ s ≤ 20) (ha : -999 ≤ a ∧ a ≤ 999) (hb : -999 ≤ b ∧ b ≤ 999) : -39960 ≤ s * (a - b) ∧ s * (a - b) ≤ 39960 :=
  mul_bd (A := 20) (D := 1998) (by omega) (by omega)
theorem stkG_bd (xs : List Int) {ps ss : List Int} (hp : ∀ j, -999 ≤ nth ps j ∧ nth ps j ≤ 999) (hs : ∀ j, -20 ≤ nth ss j ∧ nth ss j ≤ 20) (k j : Nat) : -(39960 * (k : Int)) ≤ nth (stkG xs ps ss k) j ∧ nth (stkG xs ps ss k) j ≤ 39960 * (k : Int) := by
  induction k generalizing j with
  | zero => simp [stkG, nth]
  | succ k ih =>
    cases k with
    | zero =>
      have h0 : nth (stkG xs ps ss (0 + 1)) j = 0 := by
        show nth [0] j = 0
        unfold nth List.getD; cases j <;> simp
      omega
    | succ k =>
      rw [stkG_succ _ _ _ (by omega)]
      rcases Nat.lt_trichotomy j (k + 1) with h | h | h
      · rw [nth_app_lt (by rw [stkG_len]; exact h)]; have := ih j; omega
      · subst h
        have e : (stkG xs ps ss (k + 1)).length = k + 1 := stkG_len _ _ _ _
        have := nth_app_eq (L := stkG xs ps ss (k + 1)) (a := nth (stkG xs ps ss (k + 1)) (nth xs (k + 1)).toNat + nth ss (nth xs (k + 1)).toNat * (nth ps (k + 1) - nth ps (nth xs (k + 1)).toNat))
        rw [e] at this
        rw [this]; have := ih (nth xs (k + 1)).toNat; have := stk_mul (hs (nth xs (k + 1)).toNat) (hp (k + 1)) (hp (nth xs (k + 1)).toNat); omega
      · rw [nth_out (by simp [stkG_len]; omega)]; omega

noncomputable def stkOk (xs ys ps qs : List Int) : Bool := good xs ys && isProc xs.length ps && isStk xs.length qs
noncomputable def stkR (xs ys ps qs : List Int) : List Int := if stkOk xs ys ps qs then stkG xs ps qs xs.length else []
theorem stkR_no {xs ys ps qs : List Int} (h : stkOk xs ys ps qs = false) : stkR xs ys ps qs = [] := by unfold stkR; rw [h]; rfl
theorem stkR_yes {xs ys ps qs : List Int} (h : stkOk xs ys ps qs = true) : stkR xs ys ps qs = stkG xs ps qs xs.length := by unfold stkR; rw [h]; rfl
theorem stkR_len (xs ys ps qs : List Int) (hn : xs.length ≤ 1048576) : (stkR xs ys ps qs).length ≤ 2000000 := by
  unfold stkR; split
  · rw [stkG_len]; omega
  · simp
end Go.Proofs.YtgccidkkfalaeaaGreatDoor
/- Plain: sums of a node and of its children; drifts. -/
namespace Go.Proofs.YtgccidkkfalaeaaGreatDoor
open Go.ChangeShapes Go.WideShapes Go.ChangeAt Go.RowKit

theorem drift_low {a b : Int} (ha : -1000000000 ≤ a ∧ a ≤ 1000000000) (hb : 1 ≤ b ∧ b ≤ 1000000) : lowOk a b = true ∧ lowN a b = lowX a b ∧ lowM a b = lowY a b := by
  have h1 : -1000000000 ≤ lowX a b ∧ lowX a b ≤ 1000000000 := tdiv_bd a (lowD a b) 1000000000 (by omega) ha
  have h2 : -1000000 ≤ lowY a b ∧ lowY a b ≤ 1000000 := tdiv_bd b (lowD a b) 1000000 (by omega) (by omega)
  have h : lowOk a b = true := by unfold lowOk; rw [decide_eq_true h1, decide_eq_true h2.2]; rfl
  refine ⟨h, ?_, ?_⟩
  · unfold lowN; rw [if_pos h]
  · unfold lowM; rw [if_pos h]
/-- A function's values at a list's numbers, together. -/
def lsum (f : Int → Int) : List Int → Int
  | [] => 0
  | y :: K => f y + lsum f K
theorem lsum_app (f : Int → Int) (K M : List Int) : lsum f (K ++ M) = lsum f K + lsum f M := by
  induction K with
  | nil => simp [lsum]
  | cons a K ih => simp only [List.cons_append, lsum, ih]; omega
theorem lsum_take (f : Int → Int) {K : List Int} {k : Nat} (h : k < K.length) : lsum f (K.take (k + 1)) = lsum f (K.take k) + f (nth K k) := by
  rw [List.take_succ_eq_append_getElem h, lsum_app]
  have e : nth K k = K[k] := by simp [nth, List.getD, h]
  rw [e]; simp [lsum]
theorem lsum_bd (f : Int → Int) {M : Nat} (hf : ∀ y, -(M : Int) ≤ f y ∧ f y ≤ M) (K : List Int) : -((M : Int) * K.length) ≤ lsum f K ∧ lsum f K ≤ M * K.length := by
  induction K with
  | nil => simp [lsum]
  | cons a K ih =>
    have := hf a
    simp only [lsum, List.length_cons]
    have e : (M : Int) * ((K.length + 1 : Nat) : Int) = M * K.length + M := by rw [Int.natCast_add, Int.mul_add]; simp
    rw [e]; omega
theorem lsum_lin (s p : Int → Int) (c : Int) (K : List Int) : lsum (fun y => s y * (p y - c)) K = lsum (fun y => s y * p y) K - lsum s K * c := by
  induction K with
  | nil => simp [lsum]
  | cons a K ih =>
    simp only [lsum]
    rw [ih, Int.mul_sub, Int.add_mul]; omega
/-- What the nodes 1 .. k whose parent is x hold, together. -/
def psum (xs R : List Int) (x : Nat) : Nat → Int
  | 0 => 0
  | k + 1 => psum xs R x k + if nth xs (k + 1) = (x : Int) then nth R (k + 1) else 0
theorem psum_zero {xs R : List Int} {x k : Nat} (h : ∀ y, 1 ≤ y → y ≤ k → nth xs y ≠ x) : psum xs R x k = 0 := by
  induction k with
  | zero => rfl
  | succ k ih => rw [psum, ih (fun y h1 h2 => h y h1 (by omega)), if_neg (h (k + 1) (by omega) (Nat.le_refl _))]; rfl
theorem gat_node {xs : List Int} (k : Nat) (hu : ∀ j, 1 ≤ j → j ≤ k → ∃ p : Nat, nth xs j = p ∧ p < j) : ∀ {L : List Int}, k < L.length → ∀ x, nth (gat xs L k) x = nth L x + psum xs (gat xs L k) x k := by
  induction k with
  | zero => intro L _ x; simp [gat, psum]
  | succ k ih =>
    intro L hl x
    obtain ⟨p, hp, hpk⟩ := hu (k + 1) (by omega) (Nat.le_refl _)
    rw [gat, hp]
    show nth (gat xs (L.set p (nth L p + nth L (k + 1))) k) x = _
    have hIH := @ih (fun j h1 h2 => hu j h1 (by omega)) (L.set p (nth L p + nth L (k + 1))) (by simp; omega)
    have h1 := hIH x
    have h2 := hIH (k + 1)
    rw [psum_zero (fun y h1 h2 => by obtain ⟨q, hq, hqy⟩ := hu y h1 (by omega); rw [hq]; omega), nth_set _ _ _ _ (by omega), if_neg (by omega)] at h2
    rw [psum, hp, h1, nth_set _ _ _ _ (by omega)]
    show _ = nth L x + (psum xs (gat xs (L.set p (nth L p + nth L (k + 1))) k) x k + if (p : Int) = (x : Int) then nth (gat xs (L.set p (nth L p + nth L (k + 1))) k) (k + 1) else 0)
    rw [h2]
    by_cases e : x = p
    · subst e; rw [if_pos rfl, if_pos rfl]; omega
    · rw [if_neg e, if_neg (by omega)]; omega
theorem psum_kids {xs R : List Int} (x : Nat) (h0 : nth xs 0 = -1) (k : Nat) : lsum (fun y => nth R y.toNat) (pick (isKidI xs x) (k + 1)) = psum xs R x k := by
  induction k with
  | zero =>
    have : isKidI xs x 0 = false := by unfold isKidI; rw [h0]; simp
    rw [pick_no this]; rfl
  | succ k ih =>
    rw [psum]
    by_cases e : nth xs (k + 1) = (x : Int)
    · have hk : isKidI xs x (k + 1) = true := by unfold isKidI; rw [e]; simp
      rw [pick_yes hk, lsum_app, ih, if_pos e]
      simp [lsum]
    · have hk : isKidI xs x (k + 1) = false := by unfold isKidI; simpa using e
      rw [pick_no hk, ih, if_neg e]; simp
def kidsL (xs : List Int) (x : Nat) : List Int := pick (isKidI xs x) xs.length
theorem sums_node {xs ys : List Int} (hg : good xs ys = true) (x : Nat) : nth (sumsL xs ys) x = nth ys x + lsum (fun y => nth (sumsL xs ys) y.toNat) (kidsL xs x) := by
  have hl := good_len hg
  have h1 := gat_node (xs.length - 1) (good_up hg) (L := ys) (by omega) x
  have h2 := psum_kids (R := sumsL xs ys) x (good_root hg) (xs.length - 1)
  rw [show xs.length - 1 + 1 = xs.length from by omega] at h2
  unfold kidsL; rw [h2]; exact h1
theorem kids_nil {xs ys : List Int} (hg : good xs ys = true) {x : Nat} (_hx : x < xs.length) : (kidsL xs x).length = 0 ↔ noKid xs xs.length x = true := by
  have := kids_noKid (good_iff.1 hg).2.1 (good_root hg) x
  rw [kid_same hg x] at this
  exact this
theorem inner_wt {xs ys : List Int} (hg : good xs ys = true) {x : Nat} (hx : x < xs.length) (hk : 1 ≤ (kidsL xs x).length) : nth ys x = 0 := by
  have h1 := wt_end hg hx
  have h2 : noKid xs xs.length x = false := by
    cases h : noKid xs xs.length x
    · rfl
    · have := (kids_nil hg hx).2 h; omega
  rw [h2] at h1
  have := of_decide_eq_false h1
  have := good_wt hg x
  omega
theorem inner_sum {xs ys : List Int} (hg : good xs ys = true) {x : Nat} (hx : x < xs.length) (hk : 1 ≤ (kidsL xs x).length) : lsum (fun y => nth (sumsL xs ys) y.toNat) (kidsL xs x) = nth (sumsL xs ys) x := by
  rw [sums_node hg x, inner_wt hg hx hk]; omega
theorem lsum_mem {f : Int → Int} (h0 : ∀ y, 0 ≤ f y) {K : List Int} {v : Int} (hv : v ∈ K) : f v ≤ lsum f K := by
  induction K with
  | nil => cases hv
  | cons a K ih =>
    have hn : 0 ≤ lsum f K := by
      clear ih hv
      induction K with
      | nil => simp [lsum]
      | cons b K ih => simp only [lsum]; have := h0 b; omega
    rcases List.mem_cons.1 hv with rfl | hv
    · simp only [lsum]; omega
    · simp only [lsum]; have := ih hv; have := h0 a; omega
theorem sums_pos {xs ys : List Int} (hg : good xs ys = true) : ∀ d x, x + d + 1 = xs.length → 1 ≤ nth (sumsL xs ys) x := by
  intro d
  induction d using Nat.strongRecOn with
  | ind d ih =>
    intro x hx
    by_cases hk : (kidsL xs x).length = 0
    · have h1 := (kids_nil hg (by omega)).1 hk
      have h2 := wt_end hg (x := x) (by omega)
      rw [h1] at h2
      have h3 := of_decide_eq_true h2
      have h4 := gat_pos (xs := xs) (xs.length - 1) (L := ys) (fun j => (good_wt hg j).1) x
      unfold sumsL; omega
    · obtain ⟨y, hy, hyn, hyk⟩ := pick_mem (f := isKidI xs x) (k := xs.length) (j := 0) (by unfold kidsL at hk; omega)
      have hxy : nth xs y = (x : Int) := by unfold isKidI at hyk; simpa using hyk
      have hxl : x < y := by
        by_cases e : y = 0
        · subst e; rw [good_root hg] at hxy; omega
        · obtain ⟨p, hp, hpy⟩ := good_upL hg y (by omega) hyn; omega
      have h1 := ih (xs.length - 1 - y) (by omega) y (by omega)
      rw [← inner_sum hg (by omega) (by omega)]
      have h2 := lsum_mem (f := fun y => nth (sumsL xs ys) y.toNat) (fun y => (sums_bd hg _).1) (K := kidsL xs x) (v := (y : Int)) (by
        have := nth_mem (L := pick (isKidI xs x) xs.length) (j := 0) (by unfold kidsL at hk; omega)
        rw [hy] at this; exact this)
      simp only [Int.toNat_natCast] at h2
      omega
theorem sums_one {xs ys : List Int} (hg : good xs ys = true) {x : Nat} (hx : x < xs.length) : 1 ≤ nth (sumsL xs ys) x := sums_pos hg (xs.length - 1 - x) x (by omega)

/-- The drift at a node, times its sum. -/
def dftN (xs ys ps : List Int) (x : Nat) : Int := lsum (fun y => nth (sumsL xs ys) y.toNat * (nth ps y.toNat - nth ps x)) (kidsL xs x)
theorem dft_spec {xs ys ps : List Int} (hg : good xs ys = true) {x : Nat} (hx : x < xs.length) (hk : 1 ≤ (kidsL xs x).length) : lsum (fun y => nth (sumsL xs ys) y.toNat * nth ps y.toNat) (kidsL xs x) - nth (sumsL xs ys) x * nth ps x = dftN xs ys ps x := by
  unfold dftN
  rw [lsum_lin (fun y => nth (sumsL xs ys) y.toNat) (fun y => nth ps y.toNat) (nth ps x), inner_sum hg hx hk]
theorem kids_len (xs : List Int) (x : Nat) : (kidsL xs x).length ≤ xs.length := pick_len _ _
theorem dft_bd {xs ys ps : List Int} (hg : good xs ys = true) (hp : ∀ j, -999 ≤ nth ps j ∧ nth ps j ≤ 999) (x : Nat) : -23016960 ≤ dftN xs ys ps x ∧ dftN xs ys ps x ≤ 23016960 := by
  have h1 := lsum_bd (fun y => nth (sumsL xs ys) y.toNat * (nth ps y.toNat - nth ps x)) (M := 959040) (fun y => by
    have h1 := sums_bd hg y.toNat
    have h2 := hp y.toNat
    have h3 := hp x
    have := mul_bd (A := 480) (D := 1998) (a := nth (sumsL xs ys) y.toNat) (d := nth ps y.toNat - nth ps x) (by omega) (by omega)
    omega) (kidsL xs x)
  have h2 := kids_len xs x
  have h3 := (good_len hg).2.1
  unfold dftN
  have h4 : ((959040 : Nat) : Int) * (kidsL xs x).length ≤ 959040 * 24 := Int.mul_le_mul_of_nonneg_left (by omega) (by omega)
  omega
theorem low_zero {b : Int} (hb : 1 ≤ b) : lowX 0 b = 0 ∧ lowY 0 b = 1 := low_unique (by omega) (by omega) (by decide) (by omega)
def dftP (xs ys ps : List Int) (x : Nat) : Int × Int := (lowX (dftN xs ys ps x) (nth (sumsL xs ys) x), lowY (dftN xs ys ps x) (nth (sumsL xs ys) x))
theorem dft_leaf {xs ys ps : List Int} (hg : good xs ys = true) {x : Nat} (hx : x < xs.length) (hk : (kidsL xs x).length = 0) : dftP xs ys ps x = (0, 1) := by
  unfold dftP dftN
  rw [List.eq_nil_of_length_eq_zero hk]
  have := low_zero (sums_one hg hx)
  show (lowX 0 _, lowY 0 _) = _
  rw [this.1, this.2]
/-- The drifts at the first k nodes. -/
def dftK (xs ys ps : List Int) (k : Nat) : List (Int × Int) := (List.range k).map (dftP xs ys ps)
theorem dftK_succ (xs ys ps : List Int) (k : Nat) : dftK xs ys ps (k + 1) = dftK xs ys ps k ++ [dftP xs ys ps k] := by
  unfold dftK; rw [List.range_succ, List.map_append]; rfl
theorem dftK_len (xs ys ps : List Int) (k : Nat) : (dftK xs ys ps k).length = k := by simp [dftK]
end Go.Proofs.YtgccidkkfalaeaaGreatDoor
/- Contracts: the greatest number on the way to each end. -/
namespace Go.Proofs.YtgccidkkfalaeaaGreatDoor
open Go.ChangeShapes Go.WideShapes Go.ChangeAt Go.RowKit

theorem up_mem {xs : List Int} (hu : ∀ j, 1 ≤ j → j < xs.length → ∃ p : Nat, nth xs j = p ∧ p < j) : ∀ x, x < xs.length → ∀ v ∈ up xs x, ∃ q : Nat, v = q ∧ q ≤ x := by
  intro x
  induction x using Nat.strongRecOn with
  | ind x ih =>
    intro hx v hv
    by_cases h0 : x = 0
    · subst h0; rw [up_zero] at hv; simp at hv; exact ⟨0, hv, Nat.le_refl _⟩
    · obtain ⟨p, hp, hpx⟩ := hu x (by omega) hx
      rw [up_step hu (by omega) hx hp hpx] at hv
      rcases List.mem_cons.1 hv with rfl | hv
      · exact ⟨x, rfl, Nat.le_refl _⟩
      · obtain ⟨q, hq, hqp⟩ := ih p hpx (by omega) v hv
        exact ⟨q, hq, by omega⟩
theorem way_mem {xs : List Int} (hu : ∀ j, 1 ≤ j → j < xs.length → ∃ p : Nat, nth xs j = p ∧ p < j) {x : Nat} (hx : x < xs.length) {j : Nat} (hj : j < (wayL xs x).length) : ∃ q : Nat, nth (wayL xs x) j = q ∧ q ≤ x :=
  up_mem hu x hx _ (List.mem_reverse.1 (show nth (wayL xs x) j ∈ (up xs x).reverse from nth_mem hj))
theorem ends_mem {xs : List Int} {j : Nat} (h : j < (endsL xs).length) : ∃ y : Nat, nth (endsL xs) j = y ∧ y < xs.length ∧ noKid xs xs.length y = true := pick_mem h
theorem ends_len (xs : List Int) : (endsL xs).length ≤ xs.length := pick_len _ _
/-- What a function gives at the first i numbers of a list. -/
def mapI (f : Int → Int) (E : List Int) (i : Nat) : List Int := (E.take i).map f
theorem mapI_zero (f : Int → Int) (E : List Int) : mapI f E 0 = [] := rfl
theorem mapI_succ (f : Int → Int) (E : List Int) {i : Nat} (h : i < E.length) : mapI f E (i + 1) = mapI f E i ++ [f (nth E i)] := by
  unfold mapI
  rw [List.take_succ_eq_append_getElem h, List.map_append]
  congr 1
  simp [nth, List.getD, h]
theorem mapI_all (f : Int → Int) (E : List Int) : mapI f E E.length = E.map f := by simp [mapI]
theorem mapI_len (f : Int → Int) (E : List Int) {i : Nat} (h : i ≤ E.length) : (mapI f E i).length = i := by simp [mapI]; omega

theorem ite_max (a b : Int) : (if b < a then a else b) = max b a := by split <;> omega
/-- The greatest of the pays of the first k nodes of a way, and of the root's. -/
def maxW (ps W : List Int) : Nat → Int
  | 0 => nth ps 0
  | k + 1 => max (maxW ps W k) (nth ps (nth W k).toNat)
def highE (xs ps : List Int) (y : Int) : Int := maxW ps (wayL xs y.toNat) (wayL xs y.toNat).length
def highL (xs ps : List Int) : List Int := mapI (highE xs ps) (endsL xs) (endsL xs).length
theorem highL_len (xs ps : List Int) : (highL xs ps).length ≤ xs.length := by
  unfold highL; rw [mapI_len _ _ (Nat.le_refl _)]; exact ends_len xs
theorem ends_pos {xs ys : List Int} (h : good xs ys = true) : 1 ≤ (endsL xs).length := by
  have hl := good_len h
  have h1 := last_end h
  have h2 := wt_end h (x := xs.length - 1) (by omega)
  have h3 : noKid xs xs.length (xs.length - 1) = true := by rw [← h2]; simpa using (by omega : 0 < nth ys (xs.length - 1))
  unfold endsL pick
  have h4 : ((xs.length - 1 : Nat) : Int) ∈ ((List.range xs.length).filter (noKid xs xs.length)).map (fun x : Nat => (x : Int)) :=
    List.mem_map.2 ⟨xs.length - 1, List.mem_filter.2 ⟨List.mem_range.2 (by omega), h3⟩, rfl⟩
  exact List.length_pos_of_mem h4
noncomputable def procOk (xs ys ps : List Int) : Bool := good xs ys && isProc xs.length ps
noncomputable def highR (xs ys ps : List Int) : List Int := if procOk xs ys ps then highL xs ps else []
theorem highR_no {xs ys ps : List Int} (h : procOk xs ys ps = false) : highR xs ys ps = [] := by unfold highR; rw [h]; rfl
theorem highR_yes {xs ys ps : List Int} (h : procOk xs ys ps = true) : highR xs ys ps = highL xs ps := by unfold highR; rw [h]; rfl
theorem highR_len (xs ys ps : List Int) (hn : xs.length ≤ 1048576) : (highR xs ys ps).length ≤ 2000000 := by
  unfold highR; split
  · have := highL_len xs ps; omega
  · simp
end Go.Proofs.YtgccidkkfalaeaaGreatDoor
