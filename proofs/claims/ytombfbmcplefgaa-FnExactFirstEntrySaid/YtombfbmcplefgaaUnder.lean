/- Contracts: l2Under. Plain: where a way meets a cut. -/
import Derived.Test.YtombfbmcplefgaaOver
import Derived.Test.YtombfbmcplefgaaCut
import Derived.Test.YtombfbmcplefgaaAsc
namespace Go.Proofs.Ytombfbmcplefgaa
open Go.ChangeShapes Go.WideShapes Go.ChangeAt Go.RowKit

/-- Node x is on the way to y. -/
def underB (xs : List Int) (x y : Nat) : Bool := hasB (up xs y) x
theorem under_self {xs : List Int} (hu : ∀ j, 1 ≤ j → j < xs.length → ∃ p : Nat, nth xs j = p ∧ p < j) {y : Nat} (hy : y < xs.length) : underB xs y y = true := by
  unfold underB; rw [hasB_mem]
  by_cases h : y = 0
  · subst h; rw [up_zero]; simp
  · obtain ⟨p, hp, hpy⟩ := hu y (by omega) hy
    rw [up_step hu (by omega) hy hp hpy]; simp
theorem under_low {xs : List Int} (hu : ∀ j, 1 ≤ j → j < xs.length → ∃ p : Nat, nth xs j = p ∧ p < j) {x y : Nat} (hy : y < xs.length) (h : y < x) : underB xs x y = false := by
  cases hb : underB xs x y with
  | false => rfl
  | true =>
    unfold underB at hb
    obtain ⟨q, hq, hqy⟩ := up_mem hu y hy _ (hasB_mem.1 hb)
    omega
theorem under_up {xs : List Int} (hu : ∀ j, 1 ≤ j → j < xs.length → ∃ p : Nat, nth xs j = p ∧ p < j) {x y p : Nat} (hy : y < xs.length) (hp : nth xs y = p) (hpy : p < y) (h : x < y) : underB xs x y = underB xs x p := by
  unfold underB
  rw [Bool.eq_iff_iff, hasB_mem, hasB_mem, up_step hu (by omega) hy hp hpy, List.mem_cons]
  constructor
  · rintro (h1 | h1)
    · omega
    · exact h1
  · exact .inr
set_option maxHeartbeats 1000000 in
set_option maxRecDepth 100000 in
theorem l2Under_good {xs ys : List Int} (hg : good xs ys = true) (A B : Option Addr) (c e x y : Nat) (w : World) (h : IntS w A xs) (hx : x < xs.length) (hy : y < xs.length) :
    Calls Try.prog 138 #[.agg #[.slice A xs.length c, .slice B ys.length e], .int .i64 x, .int .i64 y] w fun e1 w' => e1 = .returned (.bool (underB xs x y)) ∧ Below w.heap.size w w' := by
  have hgl := good_len hg
  have HU := Lib.hid (good_upL hg)
  have HS := Lib.hid (fun (q : Nat) (hq : q < xs.length) => under_self (good_upL hg) hq)
  have HL := Lib.hid (fun (q : Nat) (hq : q < xs.length) (hl : q < x) => under_low (x := x) (good_upL hg) hq hl)
  have HP := Lib.hid (fun (q p : Nat) (hq : q < xs.length) (hp : nth xs q = p) (hpq : p < q) (hl : x < q) => under_up (x := x) (good_upL hg) hq hp hpq hl)
  obtain ⟨r, hr⟩ : ∃ r, underB xs x y = r := ⟨_, rfl⟩
  rw [hr]
  have HR := Lib.hid hr
  have hn24 : xs.length ≤ 24 := hgl.2.1
  clear hr hgl hg
  go_enter Try.func138, Try.ntmps138
  have hx0 : (w.alloc (.cells #[.slice A xs.length c, .slice B ys.length e] 28)).cell? ⟨w.heap.size, 0, none⟩ = some (.slice A xs.length c) := by simp
  go_wp2
  go_loop [2] (fun yv => ∃ q : Nat, q < xs.length ∧ yv = .int .i64 q ∧ Hid (underB xs x q = r)) (fun yv => (intOf yv).toNat)
  case atStart => exact ⟨y, hy, rfl, HR⟩
  case round =>
    obtain ⟨q, hq, rfl, hqr⟩ := hrel
    have i1 : (q : Int) < xs.length := by omega
    by_cases hlt : x < q
    · obtain ⟨p, hp, hpq⟩ := HU.out q (by omega) hq
      obtain ⟨b1, o1, rfl, hcx⟩ := (h.alloc (.cells #[.slice A xs.length c, .slice B ys.length e] 28)).at_ hq
      rw [hp] at hcx
      have HN : Hid (underB xs x p = r) := by have := HP.out q p hq hp hpq hlt; show _ = _; rw [← this]; exact hqr.out
      have d1 : (x : Int) < q := by omega
      clear hp
      go_wp2
      go_round
      case rel => exact ⟨p, by omega, rfl, HN⟩
      case measure => simp [intOf]; omega
    · have d1 : ¬ (x : Int) < q := by omega
      by_cases hxq : x = q
      · subst hxq
        have hr' : r = true := by rw [← hqr.out]; exact HS.out x hq
        subst hr'
        go_wp2
        go_ret
        exact ⟨by simp, by (repeat (first | with_reducible exact Below.refl _ _ | with_reducible assumption | with_reducible refine Below.alloc' ?_ ?_ _ | with_reducible refine Below.setCell' ?_ ?_ _ | with_reducible refine Below.drewN' ?_ _ | with_reducible refine Below.drew ?_ | with_reducible refine Below.transA ?_ (by assumption) ?_ | omega | (focus (simp; done)) | (focus (simp; omega))))⟩
      · have hr' : r = false := by rw [← hqr.out]; exact HL.out q hq (by omega)
        subst hr'
        have d2 : ((q : Int) == (x : Int)) = false := by simpa using (by omega : ¬ (q : Int) = x)
        have d3 : decide ((q : Int) = (x : Int)) = false := decide_eq_false (by omega)
        go_wp2
        go_ret
        exact ⟨by simp, by (repeat (first | with_reducible exact Below.refl _ _ | with_reducible assumption | with_reducible refine Below.alloc' ?_ ?_ _ | with_reducible refine Below.setCell' ?_ ?_ _ | with_reducible refine Below.drewN' ?_ _ | with_reducible refine Below.drew ?_ | with_reducible refine Below.transA ?_ (by assumption) ?_ | omega | (focus (simp; done)) | (focus (simp; omega))))⟩

theorem dep_more (xs : List Int) {k m j : Nat} (hj : j < k) (hk1 : 1 ≤ k) (hkm : k ≤ m) : nth (dep xs m) j = nth (dep xs k) j := by
  induction m with
  | zero => omega
  | succ m ih =>
    by_cases h : k = m + 1
    · rw [h]
    · rw [dep_succ xs (by omega), nth_app_lt (by rw [dep_len]; omega)]; exact ih (by omega)
/-- The depth of a node. -/
def dpt (xs : List Int) (x : Nat) : Int := nth (dep xs xs.length) x
theorem dpt_step {xs : List Int} {y p : Nat} (h1 : 1 ≤ y) (hy : y < xs.length) (hp : nth xs y = p) (hpy : p < y) : dpt xs y = dpt xs p + 1 := by
  unfold dpt
  rw [dep_more xs (k := y + 1) (by omega) (by omega) (by omega), dep_succ xs h1, hp, Int.toNat_natCast, dep_more xs (k := y) (m := xs.length) hpy h1 (by omega)]
  have e : y = (dep xs y).length := (dep_len xs y).symm
  conv => lhs; arg 2; rw [e]
  simp [nth, List.getD]
theorem dpt_low (xs : List Int) (x : Nat) : 0 ≤ dpt xs x := (dep_bd xs _ x).1
theorem dpt_root {xs : List Int} (h : 1 ≤ xs.length) : dpt xs 0 = 0 := by
  unfold dpt
  rw [dep_more xs (k := 1) (by omega) (by omega) h]; rfl
theorem noKid_no {xs : List Int} {y p : Nat} (hy : y < xs.length) (hp : nth xs y = p) : noKid xs xs.length p = false := by
  unfold noKid; rw [List.all_eq_false]; exact ⟨y, List.mem_range.2 hy, by simp [hp]⟩
theorem up_dpt {xs : List Int} (hu : ∀ j, 1 ≤ j → j < xs.length → ∃ p : Nat, nth xs j = p ∧ p < j) : ∀ y, y < xs.length → ∀ v ∈ up xs y, ∃ q : Nat, v = q ∧ q ≤ y ∧ dpt xs q ≤ dpt xs y ∧ (q ≠ y → dpt xs q < dpt xs y ∧ noKid xs xs.length q = false) := by
  intro y
  induction y using Nat.strongRecOn with
  | ind y ih =>
    intro hy v hv
    by_cases h0 : y = 0
    · subst h0; rw [up_zero] at hv; simp at hv; exact ⟨0, hv, Nat.le_refl _, Int.le_refl _, fun h => absurd rfl h⟩
    · obtain ⟨p, hp, hpy⟩ := hu y (by omega) hy
      have hd := dpt_step (by omega) hy hp hpy
      rw [up_step hu (by omega) hy hp hpy] at hv
      rcases List.mem_cons.1 hv with rfl | hv
      · exact ⟨y, rfl, Nat.le_refl _, Int.le_refl _, fun h => absurd rfl h⟩
      · obtain ⟨q, h1, h2, h3, h4⟩ := ih p hpy (by omega) v hv
        refine ⟨q, h1, by omega, by omega, fun _ => ⟨by omega, ?_⟩⟩
        by_cases e : q = p
        · rw [e]; exact noKid_no hy hp
        · exact (h4 e).2
theorem up_inj {xs : List Int} (hu : ∀ j, 1 ≤ j → j < xs.length → ∃ p : Nat, nth xs j = p ∧ p < j) : ∀ y, y < xs.length → ∀ a b : Nat, (a : Int) ∈ up xs y → (b : Int) ∈ up xs y → dpt xs a = dpt xs b → a = b := by
  intro y
  induction y using Nat.strongRecOn with
  | ind y ih =>
    intro hy a b ha hb hab
    by_cases h0 : y = 0
    · subst h0; rw [up_zero] at ha hb; simp at ha hb; omega
    · obtain ⟨p, hp, hpy⟩ := hu y (by omega) hy
      have hd := dpt_step (by omega) hy hp hpy
      rw [up_step hu (by omega) hy hp hpy] at ha hb
      rcases List.mem_cons.1 ha with ha | ha <;> rcases List.mem_cons.1 hb with hb | hb
      · omega
      · obtain ⟨q, h1, _, h3, _⟩ := up_dpt hu p (by omega) _ hb
        have e1 : a = y := by omega
        have e2 : b = q := by omega
        rw [e1, e2] at hab; omega
      · obtain ⟨q, h1, _, h3, _⟩ := up_dpt hu p (by omega) _ ha
        have e1 : b = y := by omega
        have e2 : a = q := by omega
        rw [e1, e2] at hab; omega
      · exact ih p hpy (by omega) a b ha hb hab
theorem up_has {xs : List Int} (hu : ∀ j, 1 ≤ j → j < xs.length → ∃ p : Nat, nth xs j = p ∧ p < j) {d : Int} (hd : 0 ≤ d) : ∀ y, y < xs.length → d ≤ dpt xs y → ∃ q : Nat, (q : Int) ∈ up xs y ∧ q ≤ y ∧ dpt xs q = d := by
  intro y
  induction y using Nat.strongRecOn with
  | ind y ih =>
    intro hy hdy
    by_cases e : dpt xs y = d
    · exact ⟨y, hasB_mem.1 (under_self hu hy), Nat.le_refl _, e⟩
    · by_cases h0 : y = 0
      · subst h0; rw [dpt_root (by omega)] at hdy e; omega
      · obtain ⟨p, hp, hpy⟩ := hu y (by omega) hy
        have hs := dpt_step (by omega) hy hp hpy
        obtain ⟨q, h1, h2, h3⟩ := ih p hpy (by omega) (by omega)
        exact ⟨q, by rw [up_step hu (by omega) hy hp hpy]; exact List.mem_cons_of_mem _ h1, by omega, h3⟩
theorem cut_iff {xs ys : List Int} {d : Int} {x : Nat} : inCut xs ys d x = true ↔ dpt xs x = d ∨ (dpt xs x < d ∧ 0 < nth ys x) := by
  unfold inCut dpt; simp
/-- A cut meets the way to an end once. -/
theorem cut_one {xs ys : List Int} (hg : good xs ys = true) {d : Int} {y : Nat} (hy : y < xs.length) {a b : Nat} (ha : (a : Int) ∈ up xs y) (hb : (b : Int) ∈ up xs y) (ca : inCut xs ys d a = true) (cb : inCut xs ys d b = true) : a = b := by
  have hu := good_upL hg
  rw [cut_iff] at ca cb
  have key : ∀ q : Nat, (q : Int) ∈ up xs y → (dpt xs q < d ∧ 0 < nth ys q) → q = y := fun q hq hh => by
    obtain ⟨z, h1, h2, _, h4⟩ := up_dpt hu y hy _ hq
    have e : q = z := by omega
    subst e
    by_cases e : q = y
    · exact e
    · have h5 := wt_end hg (x := q) (by omega)
      rw [(h4 e).2] at h5
      have := of_decide_eq_false h5
      omega
  have top : ∀ q : Nat, (q : Int) ∈ up xs y → dpt xs q ≤ dpt xs y := fun q hq => by
    obtain ⟨z, h1, _, h3, _⟩ := up_dpt hu y hy _ hq
    have e : q = z := by omega
    rw [e]; exact h3
  rcases ca with ca | ca <;> rcases cb with cb | cb
  · exact up_inj hu y hy a b ha hb (by omega)
  · have e := key b hb cb; have := top a ha; rw [e] at cb; omega
  · have e := key a ha ca; have := top b hb; rw [e] at ca; omega
  · rw [key a ha ca, key b hb cb]
theorem cut_some {xs ys : List Int} (hg : good xs ys = true) {d : Int} (hd : 0 ≤ d) {y : Nat} (hy : y < xs.length) (he : 0 < nth ys y) : ∃ q : Nat, (q : Int) ∈ up xs y ∧ q < xs.length ∧ inCut xs ys d q = true := by
  have hu := good_upL hg
  by_cases h : dpt xs y < d
  · exact ⟨y, hasB_mem.1 (under_self hu hy), hy, cut_iff.2 (.inr ⟨h, he⟩)⟩
  · obtain ⟨q, h1, h2, h3⟩ := up_has hu hd y hy (by omega)
    exact ⟨q, h1, by omega, cut_iff.2 (.inl h3)⟩
end Go.Proofs.Ytombfbmcplefgaa
