/- Plain: the nodes where a level is met first. -/
import Derived.Test.YtombfbmcplefgaaPaysCut
namespace Go.Proofs.Ytombfbmcplefgaa
open Go.ChangeShapes Go.WideShapes Go.ChangeAt Go.RowKit

def feHit (xs ps : List Int) (lv : Int) (x : Nat) : Bool := decide (lv ≤ nth ps x) || noKid xs xs.length x
def feEn (xs ps : List Int) (lv : Int) (x : Nat) : Bool := (up xs x).any fun v => feHit xs ps lv v.toNat
def feNew (xs ps : List Int) (lv : Int) (x : Nat) : Bool := feHit xs ps lv x && !(up xs x).tail.any fun v => feHit xs ps lv v.toNat
theorem fe_root (xs ps : List Int) (lv : Int) : feEn xs ps lv 0 = feHit xs ps lv 0 ∧ feNew xs ps lv 0 = feHit xs ps lv 0 := by
  unfold feEn feNew; rw [up_zero]; simp
theorem fe_step {xs ps : List Int} {lv : Int} (hu : ∀ j, 1 ≤ j → j < xs.length → ∃ p : Nat, nth xs j = p ∧ p < j) {x p : Nat} (h1 : 1 ≤ x) (hx : x < xs.length) (hp : nth xs x = p) (hpx : p < x) :
    feEn xs ps lv x = (feHit xs ps lv x || feEn xs ps lv p) ∧ feNew xs ps lv x = (feHit xs ps lv x && !feEn xs ps lv p) := by
  unfold feEn feNew; rw [up_step hu h1 hx hp hpx]; simp
/-- A node that is entered first, on the way to y. -/
theorem fe_mem {xs ps : List Int} {lv : Int} (_hu : ∀ j, 1 ≤ j → j < xs.length → ∃ p : Nat, nth xs j = p ∧ p < j) : ∀ y, y < xs.length → ∀ x : Nat, (x : Int) ∈ up xs y → feNew xs ps lv x = true → feEn xs ps lv y = true := by
  intro y _ x hx hn
  unfold feEn; rw [List.any_eq_true]
  refine ⟨x, hx, ?_⟩
  unfold feNew at hn
  rw [Int.toNat_natCast]; exact (Bool.and_eq_true_iff.1 hn).1
theorem fe_one {xs ps : List Int} {lv : Int} (hu : ∀ j, 1 ≤ j → j < xs.length → ∃ p : Nat, nth xs j = p ∧ p < j) : ∀ y, y < xs.length → ∀ a b : Nat, (a : Int) ∈ up xs y → (b : Int) ∈ up xs y → feNew xs ps lv a = true → feNew xs ps lv b = true → a = b := by
  intro y
  induction y using Nat.strongRecOn with
  | ind y ih =>
    intro hy a b ha hb na nb
    by_cases h0 : y = 0
    · subst h0; rw [up_zero] at ha hb; simp at ha hb; omega
    · obtain ⟨p, hp, hpy⟩ := hu y (by omega) hy
      have hs := (fe_step (ps := ps) (lv := lv) hu (by omega) hy hp hpy).2
      rw [up_step hu (by omega) hy hp hpy] at ha hb
      have no : ∀ z : Nat, (z : Int) ∈ up xs p → feNew xs ps lv z = true → feNew xs ps lv y = true → False := fun z hz nz ny => by
        have := fe_mem hu p (by omega) z hz nz
        rw [hs, this] at ny; simp at ny
      rcases List.mem_cons.1 ha with ka | ka <;> rcases List.mem_cons.1 hb with kb | kb
      · omega
      · have e : a = y := by omega
        rw [e] at na; exact (no b kb nb na).elim
      · have e : b = y := by omega
        rw [e] at nb; exact (no a ka na nb).elim
      · exact ih p hpy (by omega) a b ka kb na nb
theorem up_trans {xs : List Int} (hu : ∀ j, 1 ≤ j → j < xs.length → ∃ p : Nat, nth xs j = p ∧ p < j) : ∀ y, y < xs.length → ∀ z : Nat, (z : Int) ∈ up xs y → ∀ v ∈ up xs z, v ∈ up xs y := by
  intro y
  induction y using Nat.strongRecOn with
  | ind y ih =>
    intro hy z hz v hv
    by_cases h0 : y = 0
    · subst h0; rw [up_zero] at hz; simp at hz; rw [hz] at hv; exact hv
    · obtain ⟨p, hp, hpy⟩ := hu y (by omega) hy
      rw [up_step hu (by omega) hy hp hpy] at hz
      rcases List.mem_cons.1 hz with e | e
      · have : z = y := by omega
        rw [this] at hv; exact hv
      · rw [up_step hu (by omega) hy hp hpy]; exact List.mem_cons_of_mem _ (ih p hpy (by omega) z e v hv)
theorem kid_end {xs : List Int} (hu : ∀ j, 1 ≤ j → j < xs.length → ∃ p : Nat, nth xs j = p ∧ p < j) (h0 : nth xs 0 = -1) (k : Nat) : ∀ x, x < xs.length → xs.length ≤ x + k → ∃ y : Nat, y < xs.length ∧ noKid xs xs.length y = true ∧ (x : Int) ∈ up xs y := by
  induction k with
  | zero => intro x h1 h2; omega
  | succ k ih =>
    intro x hx hk
    cases hn : noKid xs xs.length x with
    | true => exact ⟨x, hx, hn, hasB_mem.1 (under_self hu hx)⟩
    | false =>
      unfold noKid at hn
      rw [List.all_eq_false] at hn
      obtain ⟨z, hz, hp⟩ := hn
      rw [List.mem_range] at hz
      have hzx : nth xs z = x := by simpa using hp
      have h1 : 1 ≤ z := by
        rcases Nat.eq_zero_or_pos z with h | h
        · subst h; omega
        · exact h
      obtain ⟨p, hp1, hp2⟩ := hu z h1 hz
      have e : p = x := by omega
      subst e
      obtain ⟨y, y1, y2, y3⟩ := ih z hz (by omega)
      exact ⟨y, y1, y2, up_trans hu y y1 z y3 p (by rw [up_step hu h1 hz hp1 hp2]; exact List.mem_cons_of_mem _ (hasB_mem.1 (under_self hu hx)))⟩
theorem way_last {xs : List Int} (hu : ∀ j, 1 ≤ j → j < xs.length → ∃ p : Nat, nth xs j = p ∧ p < j) {y : Nat} (hy : y < xs.length) : nth (wayL xs y) ((wayL xs y).length - 1) = y := by
  by_cases h0 : y = 0
  · subst h0; rfl
  · obtain ⟨p, hp, hpy⟩ := hu y (by omega) hy
    rw [way_step hu (by omega) hy hp hpy, List.length_append]
    exact nth_app_eq
theorem way_take {xs : List Int} (hu : ∀ j, 1 ≤ j → j < xs.length → ∃ p : Nat, nth xs j = p ∧ p < j) : ∀ y, y < xs.length → ∀ k, k < (wayL xs y).length → ∃ q : Nat, nth (wayL xs y) k = q ∧ q ≤ y ∧ wayL xs q = (wayL xs y).take (k + 1) := by
  intro y
  induction y using Nat.strongRecOn with
  | ind y ih =>
    intro hy k hk
    by_cases h0 : y = 0
    · subst h0
      rw [way_zero] at hk ⊢
      simp at hk; subst hk
      exact ⟨0, rfl, Nat.le_refl _, rfl⟩
    · obtain ⟨p, hp, hpy⟩ := hu y (by omega) hy
      have e := way_step hu (by omega) hy hp hpy
      by_cases hl : k < (wayL xs p).length
      · obtain ⟨q, q1, q2, q3⟩ := ih p hpy (by omega) k hl
        refine ⟨q, by rw [e, nth_app_lt hl]; exact q1, by omega, ?_⟩
        rw [e, List.take_append_of_le_length (by omega)]; exact q3
      · have hk2 : k = (wayL xs p).length := by rw [e, List.length_append] at hk; simp at hk; omega
        refine ⟨y, by rw [e, hk2]; exact nth_app_eq, Nat.le_refl _, ?_⟩
        rw [List.take_of_length_le (by rw [e, List.length_append]; simp; omega)]
theorem fe_at {xs ys ps : List Int} {lv : Int} (hg : good xs ys = true) {y k : Nat} (hy : y < xs.length) (he : noKid xs xs.length y = true) (hk : k < (wayL xs y).length) (hlow : ∀ i, i < k → nth ps (nth (wayL xs y) i).toNat < lv) (hstop : k + 1 = (wayL xs y).length ∨ lv ≤ nth ps (nth (wayL xs y) k).toNat) :
    ∃ q : Nat, nth (wayL xs y) k = q ∧ q < xs.length ∧ (q : Int) ∈ up xs y ∧ feNew xs ps lv q = true := by
  have hu := good_upL hg
  obtain ⟨q, q1, q2, q3⟩ := way_take hu y hy k hk
  have hup : (q : Int) ∈ up xs y := by rw [← q1]; exact List.mem_reverse.1 (nth_mem hk)
  refine ⟨q, q1, by omega, hup, ?_⟩
  have hit : feHit xs ps lv q = true := by
    unfold feHit
    rcases hstop with h | h
    · have := way_last hu hy
      rw [← h, Nat.add_sub_cancel, q1] at this
      have e : q = y := by omega
      rw [e, he, Bool.or_true]
    · rw [q1, Int.toNat_natCast] at h; rw [decide_eq_true h, Bool.true_or]
  have hq : up xs q = (wayL xs q).reverse := by unfold wayL; rw [List.reverse_reverse]
  have hgk : (wayL xs y)[k] = q := by rw [← q1]; exact (nth_get hk).symm
  rw [q3, List.take_succ_eq_append_getElem hk, List.reverse_append] at hq
  unfold feNew
  rw [hit, hq]
  simp only [Bool.true_and, List.reverse_cons, List.reverse_nil, List.nil_append, List.singleton_append, List.tail_cons]
  rw [Bool.not_eq_true', List.any_eq_false]
  intro v hv
  obtain ⟨i, hi, e⟩ := List.getElem_of_mem (List.mem_reverse.1 hv)
  have hi2 : i < k ∧ i < (wayL xs y).length := by have := hi; rw [List.length_take] at this; omega
  rw [List.getElem_take] at e
  have e2 : nth (wayL xs y) i = v := by rw [← e]; exact nth_get hi2.2
  have h1 := hlow i (by omega)
  rw [e2] at h1
  have hvu : v ∈ up xs y := by rw [← e2]; exact List.mem_reverse.1 (nth_mem hi2.2)
  obtain ⟨z, z1, z2, _, z4⟩ := up_dpt hu y hy v hvu
  have h2 := asc_lt (asc_way hu y hy) (show i < k by omega) hk
  rw [e2, q1] at h2
  have h3 := (z4 (by omega)).2
  subst z1
  rw [Int.toNat_natCast] at h1 ⊢
  unfold feHit
  rw [h3, decide_eq_false (by omega)]; simp

def feT (xs ps : List Int) (lv : Int) (i : Nat) : List Int := pick (fun x => feNew xs ps lv x && (List.range i).any fun j => hasB (up xs (nth (endsL xs) j).toNat) x) xs.length
def feL (xs ps : List Int) (lv : Int) : List Int := pick (feNew xs ps lv) xs.length
theorem feT_asc (xs ps : List Int) (lv : Int) (i : Nat) : Asc (feT xs ps lv i) := asc_pick _ _
theorem feT_zero (xs ps : List Int) (lv : Int) : feT xs ps lv 0 = [] := by
  unfold feT pick; simp
theorem feT_step {xs ys ps : List Int} {lv : Int} (hg : good xs ys = true) {i y q : Nat} (hy : nth (endsL xs) i = y) (hyn : y < xs.length) (hq : q < xs.length) (h1 : (q : Int) ∈ up xs y) (h2 : feNew xs ps lv q = true) :
    ∀ v, v ∈ feT xs ps lv (i + 1) ↔ v ∈ feT xs ps lv i ∨ v = q := by
  intro v
  unfold feT
  rw [mem_pick, mem_pick]
  constructor
  · rintro ⟨x, rfl, hx, hc⟩
    rw [Bool.and_eq_true, List.any_eq_true] at hc
    obtain ⟨c1, j, cj, c2⟩ := hc
    rw [List.mem_range] at cj
    by_cases e : j = i
    · subst e
      rw [hy, Int.toNat_natCast, hasB_mem] at c2
      right
      rw [fe_one (good_upL hg) y hyn x q c2 h1 c1 h2]
    · left
      exact ⟨x, rfl, hx, by rw [Bool.and_eq_true, List.any_eq_true]; exact ⟨c1, j, List.mem_range.2 (by omega), c2⟩⟩
  · rintro (⟨x, rfl, hx, hc⟩ | rfl)
    · rw [Bool.and_eq_true, List.any_eq_true] at hc
      obtain ⟨c1, j, cj, c2⟩ := hc
      rw [List.mem_range] at cj
      exact ⟨x, rfl, hx, by rw [Bool.and_eq_true, List.any_eq_true]; exact ⟨c1, j, List.mem_range.2 (by omega), c2⟩⟩
    · exact ⟨q, rfl, hq, by rw [Bool.and_eq_true, List.any_eq_true]; exact ⟨h2, i, List.mem_range.2 (by omega), by rw [hy, Int.toNat_natCast, hasB_mem]; exact h1⟩⟩
theorem feT_all {xs ys ps : List Int} {lv : Int} (hg : good xs ys = true) : feT xs ps lv (endsL xs).length = feL xs ps lv := by
  refine asc_ext (asc_pick _ _) (asc_pick _ _) fun v => ?_
  unfold feT feL
  rw [mem_pick, mem_pick]
  constructor
  · rintro ⟨x, rfl, hx, hc⟩; exact ⟨x, rfl, hx, (Bool.and_eq_true_iff.1 hc).1⟩
  · rintro ⟨x, rfl, hx, hc⟩
    obtain ⟨y, y1, y2, y3⟩ := kid_end (good_upL hg) (good_root hg) xs.length x hx (by omega)
    have hm : (y : Int) ∈ endsL xs := by unfold endsL; rw [mem_pick]; exact ⟨y, rfl, y1, y2⟩
    obtain ⟨j, hj, e⟩ := mem_nth hm
    exact ⟨x, rfl, hx, by rw [Bool.and_eq_true, List.any_eq_true]; exact ⟨hc, j, List.mem_range.2 hj, by rw [e, Int.toNat_natCast, hasB_mem]; exact y3⟩⟩
theorem feT_len (xs ps : List Int) (lv : Int) (i : Nat) : (feT xs ps lv i).length ≤ xs.length := pick_len _ _
theorem feL_len (xs ps : List Int) (lv : Int) : (feL xs ps lv).length ≤ xs.length := pick_len _ _
noncomputable def feR (xs ys ps : List Int) (lv : Int) : List Int := if procOk xs ys ps then feL xs ps lv else []
theorem feR_no {xs ys ps : List Int} {lv : Int} (h : procOk xs ys ps = false) : feR xs ys ps lv = [] := by unfold feR; rw [h]; rfl
theorem feR_yes {xs ys ps : List Int} {lv : Int} (h : procOk xs ys ps = true) : feR xs ys ps lv = feL xs ps lv := by unfold feR; rw [h]; rfl
theorem feR_len (xs ys ps : List Int) (lv : Int) (hn : xs.length ≤ 1048576) : (feR xs ys ps lv).length ≤ 2000000 := by
  unfold feR; split
  · have := feL_len xs ps lv; omega
  · simp
end Go.Proofs.Ytombfbmcplefgaa
