/- Plain: ascending lists. -/
import Derived.Test.YtombfbmcplefgaaMgPr8
import Derived.Test.YtombfbmcplefgaaMgPr10
import Derived.Test.YtombfbmcplefgaaMgPr5
import Derived.Test.YtombfbmcplefgaaMgPr6
namespace Go.Proofs.Ytombfbmcplefgaa
open Go.ChangeShapes Go.WideShapes Go.ChangeAt Go.RowKit

def Asc (L : List Int) : Prop := L.Pairwise (· < ·)
theorem asc_ext : ∀ {L M : List Int}, Asc L → Asc M → (∀ v, v ∈ L ↔ v ∈ M) → L = M
  | [], [], _, _, _ => rfl
  | [], b :: M, _, _, h => by have := (h b).2 (by simp); cases this
  | a :: L, [], _, _, h => by have := (h a).1 (by simp); cases this
  | a :: L, b :: M, hL, hM, h => by
    have hL' := List.pairwise_cons.1 hL
    have hM' := List.pairwise_cons.1 hM
    have hab : a = b := by
      have h1 := (h a).1 (by simp)
      have h2 := (h b).2 (by simp)
      rcases List.mem_cons.1 h1 with e | h1
      · exact e
      · rcases List.mem_cons.1 h2 with e | h2
        · exact e.symm
        · have := hL'.1 b h2; have := hM'.1 a h1; omega
    subst hab
    rw [asc_ext hL'.2 hM'.2 fun v => ?_]
    have hv := h v
    constructor
    · intro hm
      have := hL'.1 v hm
      rcases List.mem_cons.1 (hv.1 (List.mem_cons_of_mem _ hm)) with e | hm'
      · omega
      · exact hm'
    · intro hm
      have := hM'.1 v hm
      rcases List.mem_cons.1 (hv.2 (List.mem_cons_of_mem _ hm)) with e | hm'
      · omega
      · exact hm'
theorem nth_get {L : List Int} {j : Nat} (h : j < L.length) : nth L j = L[j] := by simp [nth, List.getD, h]
theorem asc_rise {L : List Int} : riseB L = true ↔ Asc L := by
  constructor
  · intro h
    refine List.pairwise_iff_getElem.2 fun i j hi hj hij => ?_
    have := rise_lt h hij hj
    rwa [nth_get hi, nth_get hj] at this
  · intro h
    refine riseB_yes fun j hj => ?_
    rw [nth_get (by omega), nth_get hj]
    exact List.pairwise_iff_getElem.1 h j (j + 1) (by omega) hj (by omega)
theorem hasB_mem {L : List Int} {v : Int} : hasB L v = true ↔ v ∈ L := by
  rw [hasB_iff]
  constructor
  · rintro ⟨j, hj, he⟩; rw [← he]; exact nth_mem hj
  · exact fun h => mem_nth h
theorem both_mem {L M : List Int} {v : Int} : v ∈ bothL L M ↔ v ∈ L ∧ v ∈ M := by
  unfold bothL; rw [List.mem_filter, hasB_mem]
theorem asc_both {L : List Int} (h : Asc L) (M : List Int) : Asc (bothL L M) := List.Pairwise.filter _ h
theorem both_comm {L M : List Int} (hL : Asc L) (hM : Asc M) : bothL L M = bothL M L :=
  asc_ext (asc_both hL M) (asc_both hM L) fun v => by rw [both_mem, both_mem, and_comm]
theorem asc_way {xs : List Int} (hu : ∀ j, 1 ≤ j → j < xs.length → ∃ p : Nat, nth xs j = p ∧ p < j) : ∀ x, x < xs.length → Asc (wayL xs x) := by
  intro x
  induction x using Nat.strongRecOn with
  | ind x ih =>
    intro hx
    by_cases h0 : x = 0
    · subst h0; rw [way_zero]; exact List.pairwise_singleton _ _
    · obtain ⟨p, hp, hpx⟩ := hu x (by omega) hx
      rw [way_step hu (by omega) hx hp hpx]
      refine List.pairwise_append.2 ⟨ih p hpx (by omega), List.pairwise_singleton _ _, fun a ha b hb => ?_⟩
      have hb' : b = (x : Int) := by simpa using hb
      obtain ⟨q, hq, hqp⟩ := up_mem hu p (by omega) a (by unfold wayL at ha; exact List.mem_reverse.1 ha)
      omega
theorem asc_pick (f : Nat → Bool) (n : Nat) : Asc (pick f n) := by
  unfold pick
  refine List.Pairwise.map _ (fun a b h => ?_) (List.Pairwise.filter _ List.pairwise_lt_range)
  show (a : Int) < b
  omega
theorem mem_pick {f : Nat → Bool} {n : Nat} {v : Int} : v ∈ pick f n ↔ ∃ x : Nat, v = x ∧ x < n ∧ f x = true := by
  unfold pick
  rw [List.mem_map]
  constructor
  · rintro ⟨x, hx, rfl⟩
    have := List.mem_filter.1 hx
    exact ⟨x, rfl, List.mem_range.1 this.1, this.2⟩
  · rintro ⟨x, rfl, hx, hf⟩
    exact ⟨x, List.mem_filter.2 ⟨List.mem_range.2 hx, hf⟩, rfl⟩
end Go.Proofs.Ytombfbmcplefgaa
/- Contracts: over. -/
namespace Go.Proofs.Ytombfbmcplefgaa
open Go.ChangeShapes Go.WideShapes Go.ChangeAt Go.RowKit

/-- The place in a list of the first node that is met on the way up, or -1. -/
def ovU (ns : List Int) : List Int → Int
  | [] => -1
  | v :: U => if 0 ≤ idxI ns v then idxI ns v else ovU ns U
def ovX (xs ns : List Int) (y : Int) : Int := ovU ns (up xs y.toNat)
def ovL (xs ns : List Int) : List Int := mapI (ovX xs ns) (endsL xs) (endsL xs).length
theorem ovL_len (xs ns : List Int) : (ovL xs ns).length = (endsL xs).length := mapI_len _ _ (Nat.le_refl _)
theorem ov_all {xs : List Int} (ns : List Int) (hu : ∀ j, 1 ≤ j → j < xs.length → ∃ p : Nat, nth xs j = p ∧ p < j) (h0 : nth xs 0 = -1) {q : Nat} (hq : q < xs.length) :
    ∃ a : Int, nth xs q = a ∧ -1 ≤ a ∧ a < q ∧ ((0 ≤ idxI ns q ∧ ovX xs ns q = idxI ns q) ∨ (idxI ns q = -1 ∧ ((a = -1 ∧ ovX xs ns q = -1) ∨ ∃ p : Nat, a = p ∧ p < xs.length ∧ ovX xs ns q = ovX xs ns p))) := by
  have hi : idxI ns q = -1 ∨ 0 ≤ idxI ns q := by
    rcases idxI_cases ns q with ⟨_, h⟩ | ⟨_, i, h, _⟩ <;> omega
  by_cases hz : q = 0
  · subst hz
    refine ⟨-1, h0, by omega, by omega, ?_⟩
    have e : ovX xs ns ((0 : Nat) : Int) = if 0 ≤ idxI ns ((0 : Nat) : Int) then idxI ns ((0 : Nat) : Int) else -1 := by
      unfold ovX; rw [Int.toNat_natCast, up_zero]; rfl
    rcases hi with h | h
    · exact .inr ⟨h, .inl ⟨rfl, by rw [e, if_neg (by omega)]⟩⟩
    · exact .inl ⟨h, by rw [e, if_pos h]⟩
  · obtain ⟨p, hp, hpq⟩ := hu q (by omega) hq
    refine ⟨p, hp, by omega, by omega, ?_⟩
    have e : ovX xs ns (q : Int) = if 0 ≤ idxI ns (q : Int) then idxI ns (q : Int) else ovX xs ns (p : Int) := by
      unfold ovX; rw [Int.toNat_natCast, Int.toNat_natCast, up_step hu (by omega) hq hp hpq]; rfl
    rcases hi with h | h
    · exact .inr ⟨h, .inr ⟨p, rfl, by omega, by rw [e, if_neg (by omega)]⟩⟩
    · exact .inl ⟨h, by rw [e, if_pos h]⟩

set_option maxHeartbeats 4000000 in
set_option maxRecDepth 100000 in
theorem over_good {xs ys : List Int} (hg : good xs ys = true) (A B N : Option Addr) (c e cn : Nat) (ns : List Int) (w : World) (h : IntS w A xs) (zn : IntS w N ns) (ln : ns.length ≤ 2000000) :
    Calls Try.prog 92 #[.agg #[.slice A xs.length c, .slice B ys.length e], .slice N ns.length cn] w (RetI w (ovL xs ns)) := by
  have hgl := good_len hg
  have HE := Lib.hid (fun W (h : IntS W A xs) => ends_any A B c ys.length e xs W h (by omega) (good_iff.1 hg).2.1 (good_root hg))
  have HEM : Hid (∀ j, j < (endsL xs).length → ∃ y : Nat, nth (endsL xs) j = y ∧ y < xs.length) := fun j hj => by obtain ⟨y, h1, h2, _⟩ := ends_mem hj; exact ⟨y, h1, h2⟩
  have hel := ends_len xs
  have hep := ends_pos hg
  have HS := Lib.hid (fun (q : Nat) (hq : q < xs.length) => ov_all ns (good_upL hg) (good_root hg) hq)
  have HIX := Lib.hid (fun W v (z : IntS W N ns) => index_any N cn ns v W z ln)
  obtain ⟨n, e1⟩ : ∃ n, xs.length = n := ⟨_, rfl⟩
  have e2 : ys.length = n := by rw [hgl.2.2]; exact e1
  simp only [e1, e2] at HE HEM hgl hel HS ⊢
  have HN := Lib.hid e1.symm
  obtain ⟨hgl1, hgl2, _⟩ := hgl
  clear e1 e2 hg
  unfold ovL
  generalize ovX xs ns = f at *
  have HMS := Lib.hid (fun i (h : i < (endsL xs).length) => mapI_succ f (endsL xs) h)
  have HML := Lib.hid (fun i (h : i ≤ (endsL xs).length) => mapI_len f (endsL xs) h)
  generalize endsL xs = E at *
  obtain ⟨i0, hi, hz0, hz1, hz2⟩ := info_parts info_int
  go_enter Try.func92, Try.ntmps92
  go_wp2_with fail
  refine (HE.out _ ((h.alloc _).alloc _)).mono ?_
  rintro e1 w1 ⟨A1, c1, rfl, ho, hb1⟩
  have hx0 : w1.cell? ⟨w.heap.size, 0, none⟩ = some (.slice A n c) := keep_cell hb1 (by simp)
  have hx1 : w1.cell? ⟨w.heap.size, 1, none⟩ = some (.slice B n e) := keep_cell hb1 (by simp)
  have hown := own_below (own_empty (w.alloc (.cells #[.slice A n c, .slice B n e] 28)) (w.heap.size + 1) (w.heap.size + 1) (by simp) (by simp)) hb1
  have hw : Below w.heap.size w w1 := below_alloc (below_alloc hb1)
  obtain ⟨gE, rfl, hgE, hE⟩ := ho.pos hep
  replace hgE : w.heap.size + 1 < gE := by simp at hgE; omega
  clear ho hb1
  go_wp2
  go_loopw [5, 14] (fun v i wr => ∃ j : Nat, j ≤ E.length ∧ i = .int .i64 j ∧ wr.ownsRow (w.heap.size + 1) 3 1 v (mapI f E j).length (i64s (mapI f E j)) ∧ v.ownBlock ≠ some gE ∧ Row wr gE E ∧ wr.cell? ⟨w.heap.size, 0, none⟩ = some (.slice A n c) ∧ wr.cell? ⟨w.heap.size, 1, none⟩ = some (.slice B n e) ∧ Below w.heap.size w wr) (fun _ i _ => E.length - (intOf i).toNat)
  case atStart => exact ⟨0, by omega, rfl, hown, by simp [Value.ownBlock]; omega, hE, hx0, hx1, hw⟩
  case round =>
    clear hown hE hx0 hx1 hw
    obtain ⟨j, hj, rfl, hown, hne, hE, hx0, hx1, hw⟩ := hrel
    by_cases hlt : j < E.length
    · obtain ⟨y, hy, hyn⟩ := HEM.out j hlt
      have hcE := hE.cell hlt
      rw [hy] at hcE
      have hlt' : (j : Int) < E.length := by omega
      have hms := HMS.out j hlt
      rw [hy] at hms
      obtain ⟨t0, ht0⟩ : ∃ t, f y = t := ⟨_, rfl⟩
      rw [ht0] at hms
      have HT0 := Lib.hid ht0
      have HMJ := Lib.hid (HML.out j hj)
      have HPX : Hid (i64s (mapI f E (j + 1)) = i64s (mapI f E j) ++ [Value.int .i64 t0] ∧ (mapI f E (j + 1)).length = (mapI f E j).length + 1) := by rw [hms]; exact ⟨i64s_app _ _, by simp⟩
      have hlen : (mapI f E j).length ≤ 24 := by rw [HMJ.out]; omega
      clear hy hms ht0
      generalize mapI f E j = L at *
      have hlx := World.block_lt_of_cell? _ _ hx0
      replace hlx : w.heap.size < wr.heap.size := hlx
      go_wp2
      go_loop [8, 9] (fun av xv => (∃ q : Nat, q < n ∧ xv = .int .i64 q ∧ av = .int .i64 (-1) ∧ Hid (f q = t0)) ∨ (∃ a : Int, -1 ≤ a ∧ a < n ∧ xv = .int .i64 a ∧ av = .int .i64 t0 ∧ (0 ≤ t0 ∨ a = -1))) (fun _ xv => (intOf xv + 1).toNat)
      case atStart => exact .inl ⟨y, hyn, rfl, rfl, HT0⟩
      case round =>
        rcases hrel with ⟨q, hq, rfl, rfl, hf⟩ | ⟨a, ha1, ha2, rfl, rfl, hend⟩
        · obtain ⟨b1, o1, rfl, hcx⟩ := (h.below hw).at_ (j := q) (by rw [← HN.out]; exact hq)
          obtain ⟨a, hae, ha1, ha2, hcase⟩ := HS.out q hq
          rw [hae] at hcx
          have HCI := fun W z => HIX.out W q z
          have HCS := Lib.hid hcase
          clear hae hcase
          have i1 : (q : Int) < n := by omega
          go_wp2_with (go_at_call 142; refine (HIX.out _ _ (zn.below hw)).mono ?_; rintro e w' ⟨rfl, rfl⟩)
          go_round
          case rel =>
            rcases HCS.out with ⟨h1, h2⟩ | ⟨h1, ⟨h2, h3⟩ | ⟨p, h2, h3, h4⟩⟩
            · exact .inr ⟨a, ha1, by omega, rfl, by rw [← hf.out, h2], .inl (by rw [← hf.out, h2]; exact h1)⟩
            · exact .inr ⟨a, ha1, by omega, rfl, by rw [← hf.out, h3, h1], .inr h2⟩
            · exact .inl ⟨p, h3, by rw [h2], by rw [h1], show f p = t0 by rw [← h4]; exact hf.out⟩
          case measure => simp [intOf]; omega
        · by_cases h9 : 0 ≤ a
          · have h8 : 0 ≤ t0 := by omega
            clear hend
            go_wp2_with (at_builtin; (refine wpList_append_own_at _ rfl _ _ 22 rfl (w.heap.size + 1) 3 i0 (.int .i64 0) 1 8 Try.underlying22 hi hz0 hz1 hz2 rfl (by decide) _ _ _ rfl (hown.alloc _) ⟨wr.heap.size, 0, none⟩ 1 1 [.int .i64 (t0)] rfl rfl (cell_one_new _ _ _) (by simp [Value.oneCell']) (by unfold maxLen; omega) (by omega) (by simp; omega) ?_); intro v' w1 hown1 hgrow _ hat)
            have hrow1 := (hE.alloc (.cells #[.int .i64 t0] 3)).grown hgrow (fun e => hne e.symm)
            have hxx0 := grown_cell hgrow (p := ⟨w.heap.size, 0, none⟩) (by rw [World.cell?_alloc_lt _ _ _ hlx]; exact hx0) (own_ne (g := w.heap.size) hown (by omega))
            have hxx1 := grown_cell hgrow (p := ⟨w.heap.size, 1, none⟩) (by rw [World.cell?_alloc_lt _ _ _ hlx]; exact hx1) (own_ne (g := w.heap.size) hown (by omega))
            have hb3 : Below w.heap.size w w1 := Below.grown (hw.alloc hw.size _) hgrow (by simp; omega) (fun g hg => by have := (hown.lt g hg).1; omega)
            have hgl := hE.lt
            have hne1 : v'.ownBlock ≠ some gE := by
              rcases hat with e | e
              · rw [e]; exact hne
              · rw [e]; simp; omega
            rw [← HPX.out.1, ← HPX.out.2] at hown1
            clear hown hgrow hE hw HPX hx0 hx1 hne hat
            go_wp2
            go_roundw
            case rel => exact ⟨j + 1, by omega, by go_num, hown1, hne1, hrow1, hxx0, hxx1, hb3⟩
            case measure => simp only [intOf]; omega
          · clear hend
            go_wp2_with (at_builtin; (refine wpList_append_own_at _ rfl _ _ 22 rfl (w.heap.size + 1) 3 i0 (.int .i64 0) 1 8 Try.underlying22 hi hz0 hz1 hz2 rfl (by decide) _ _ _ rfl (hown.alloc _) ⟨wr.heap.size, 0, none⟩ 1 1 [.int .i64 (t0)] rfl rfl (cell_one_new _ _ _) (by simp [Value.oneCell']) (by unfold maxLen; omega) (by omega) (by simp; omega) ?_); intro v' w1 hown1 hgrow _ hat)
            have hrow1 := (hE.alloc (.cells #[.int .i64 t0] 3)).grown hgrow (fun e => hne e.symm)
            have hxx0 := grown_cell hgrow (p := ⟨w.heap.size, 0, none⟩) (by rw [World.cell?_alloc_lt _ _ _ hlx]; exact hx0) (own_ne (g := w.heap.size) hown (by omega))
            have hxx1 := grown_cell hgrow (p := ⟨w.heap.size, 1, none⟩) (by rw [World.cell?_alloc_lt _ _ _ hlx]; exact hx1) (own_ne (g := w.heap.size) hown (by omega))
            have hb3 : Below w.heap.size w w1 := Below.grown (hw.alloc hw.size _) hgrow (by simp; omega) (fun g hg => by have := (hown.lt g hg).1; omega)
            have hgl := hE.lt
            have hne1 : v'.ownBlock ≠ some gE := by
              rcases hat with e | e
              · rw [e]; exact hne
              · rw [e]; simp; omega
            rw [← HPX.out.1, ← HPX.out.2] at hown1
            clear hown hgrow hE hw HPX hx0 hx1 hne hat
            go_wp2
            go_roundw
            case rel => exact ⟨j + 1, by omega, by go_num, hown1, hne1, hrow1, hxx0, hxx1, hb3⟩
            case measure => simp only [intOf]; omega
    · have hkn : j = E.length := by omega
      rw [hkn] at hown
      obtain ⟨A', c', rfl, hO⟩ := own_form hown
      clear hkn hown
      go_wp2
      go_ret
      exact ⟨A', c', rfl, hO.mono (by omega), hw⟩
end Go.Proofs.Ytombfbmcplefgaa
/- Contracts: l2Under. Plain: where a way meets a cut. -/
namespace Go.Proofs.Ytombfbmcplefgaa
open Go.ChangeShapes Go.WideShapes Go.ChangeAt Go.RowKit

/-- Node x is on the way to y. -/
def underB (xs : List Int) (x y : Nat) : Bool := hasB (up xs y) x
theorem under_self {xs : List Int} (hu : ∀ j, 1 ≤ j → j < xs.length → ∃ p : Nat, nth xs j = p ∧ p < j) {y : Nat} (hy : y < xs.length) : underB xs y y = true := by
  unfold underB; rw [hasB_mem]
  by_cases h : y = 0
  · subst h; rw [up_zero]; simp
  · obtain ⟨p, hp, hpy⟩ := hu y (by omega) hy
    rw [up_step hu (by omega) hy hp hpy]; simp
theorem under_low {xs : List Int} (hu : ∀ j, 1 ≤ j → j < xs.length → ∃ p : Nat, nth xs j = p ∧ p < j) {x y : Nat} (hy : y < xs.length) (h : y < x) : underB xs x y = false := by
  cases hb : underB xs x y with
  | false => rfl
  | true =>
    unfold underB at hb
    obtain ⟨q, hq, hqy⟩ := up_mem hu y hy _ (hasB_mem.1 hb)
    omega
theorem under_up {xs : List Int} (hu : ∀ j, 1 ≤ j → j < xs.length → ∃ p : Nat, nth xs j = p ∧ p < j) {x y p : Nat} (hy : y < xs.length) (hp : nth xs y = p) (hpy : p < y) (h : x < y) : underB xs x y = underB xs x p := by
  unfold underB
  rw [Bool.eq_iff_iff, hasB_mem, hasB_mem, up_step hu (by omega) hy hp hpy, List.mem_cons]
  constructor
  · rintro (h1 | h1)
    · omega
    · exact h1
  · exact .inr
set_option maxHeartbeats 1000000 in
set_option maxRecDepth 100000 in
theorem l2Under_good {xs ys : List Int} (hg : good xs ys = true) (A B : Option Addr) (c e x y : Nat) (w : World) (h : IntS w A xs) (_hx : x < xs.length) (hy : y < xs.length) :
    Calls Try.prog 138 #[.agg #[.slice A xs.length c, .slice B ys.length e], .int .i64 x, .int .i64 y] w fun e1 w' => e1 = .returned (.bool (underB xs x y)) ∧ Below w.heap.size w w' := by
  have hgl := good_len hg
  have HU := Lib.hid (good_upL hg)
  have HS := Lib.hid (fun (q : Nat) (hq : q < xs.length) => under_self (good_upL hg) hq)
  have HL := Lib.hid (fun (q : Nat) (hq : q < xs.length) (hl : q < x) => under_low (x := x) (good_upL hg) hq hl)
  have HP := Lib.hid (fun (q p : Nat) (hq : q < xs.length) (hp : nth xs q = p) (hpq : p < q) (hl : x < q) => under_up (x := x) (good_upL hg) hq hp hpq hl)
  obtain ⟨r, hr⟩ : ∃ r, underB xs x y = r := ⟨_, rfl⟩
  rw [hr]
  have HR := Lib.hid hr
  have hn24 : xs.length ≤ 24 := hgl.2.1
  clear hr hgl hg
  go_enter Try.func138, Try.ntmps138
  have hx0 : (w.alloc (.cells #[.slice A xs.length c, .slice B ys.length e] 28)).cell? ⟨w.heap.size, 0, none⟩ = some (.slice A xs.length c) := by simp
  go_wp2
  go_loop [2] (fun yv => ∃ q : Nat, q < xs.length ∧ yv = .int .i64 q ∧ Hid (underB xs x q = r)) (fun yv => (intOf yv).toNat)
  case atStart => exact ⟨y, hy, rfl, HR⟩
  case round =>
    obtain ⟨q, hq, rfl, hqr⟩ := hrel
    have i1 : (q : Int) < xs.length := by omega
    by_cases hlt : x < q
    · obtain ⟨p, hp, hpq⟩ := HU.out q (by omega) hq
      obtain ⟨b1, o1, rfl, hcx⟩ := (h.alloc (.cells #[.slice A xs.length c, .slice B ys.length e] 28)).at_ hq
      rw [hp] at hcx
      have HN : Hid (underB xs x p = r) := by have := HP.out q p hq hp hpq hlt; show _ = _; rw [← this]; exact hqr.out
      have d1 : (x : Int) < q := by omega
      clear hp
      go_wp2
      go_round
      case rel => exact ⟨p, by omega, rfl, HN⟩
      case measure => simp [intOf]; omega
    · have d1 : ¬ (x : Int) < q := by omega
      by_cases hxq : x = q
      · subst hxq
        have hr' : r = true := by rw [← hqr.out]; exact HS.out x hq
        subst hr'
        go_wp2
        go_ret
        exact ⟨by simp, by (repeat (first | with_reducible exact Below.refl _ _ | with_reducible assumption | with_reducible refine Below.alloc' ?_ ?_ _ | with_reducible refine Below.setCell' ?_ ?_ _ | with_reducible refine Below.drewN' ?_ _ | with_reducible refine Below.drew ?_ | with_reducible refine Below.transA ?_ (by assumption) ?_ | omega | (focus (simp; done)) | (focus (simp; omega))))⟩
      · have hr' : r = false := by rw [← hqr.out]; exact HL.out q hq (by omega)
        subst hr'
        have d2 : ((q : Int) == (x : Int)) = false := by simpa using (by omega : ¬ (q : Int) = x)
        have d3 : decide ((q : Int) = (x : Int)) = false := decide_eq_false (by omega)
        go_wp2
        go_ret
        exact ⟨by simp, by (repeat (first | with_reducible exact Below.refl _ _ | with_reducible assumption | with_reducible refine Below.alloc' ?_ ?_ _ | with_reducible refine Below.setCell' ?_ ?_ _ | with_reducible refine Below.drewN' ?_ _ | with_reducible refine Below.drew ?_ | with_reducible refine Below.transA ?_ (by assumption) ?_ | omega | (focus (simp; done)) | (focus (simp; omega))))⟩

theorem dep_more (xs : List Int) {k m j : Nat} (hj : j < k) (hk1 : 1 ≤ k) (hkm : k ≤ m) : nth (dep xs m) j = nth (dep xs k) j := by
  induction m with
  | zero => omega
  | succ m ih =>
    by_cases h : k = m + 1
    · rw [h]
    · rw [dep_succ xs (by omega), nth_app_lt (by rw [dep_len]; omega)]; exact ih (by omega)
/-- The depth of a node. -/
def dpt (xs : List Int) (x : Nat) : Int := nth (dep xs xs.length) x
theorem dpt_step {xs : List Int} {y p : Nat} (h1 : 1 ≤ y) (hy : y < xs.length) (hp : nth xs y = p) (hpy : p < y) : dpt xs y = dpt xs p + 1 := by
  unfold dpt
  rw [dep_more xs (k := y + 1) (by omega) (by omega) (by omega), dep_succ xs h1, hp, Int.toNat_natCast, dep_more xs (k := y) (m := xs.length) hpy h1 (by omega)]
  have e : y = (dep xs y).length := (dep_len xs y).symm
  conv => lhs; arg 2; rw [e]
  simp [nth, List.getD]
theorem dpt_low (xs : List Int) (x : Nat) : 0 ≤ dpt xs x := (dep_bd xs _ x).1
theorem dpt_root {xs : List Int} (h : 1 ≤ xs.length) : dpt xs 0 = 0 := by
  unfold dpt
  rw [dep_more xs (k := 1) (by omega) (by omega) h]; rfl
theorem noKid_no {xs : List Int} {y p : Nat} (hy : y < xs.length) (hp : nth xs y = p) : noKid xs xs.length p = false := by
  unfold noKid; rw [List.all_eq_false]; exact ⟨y, List.mem_range.2 hy, by simp [hp]⟩
theorem up_dpt {xs : List Int} (hu : ∀ j, 1 ≤ j → j < xs.length → ∃ p : Nat, nth xs j = p ∧ p < j) : ∀ y, y < xs.length → ∀ v ∈ up xs y, ∃ q : Nat, v = q ∧ q ≤ y ∧ dpt xs q ≤ dpt xs y ∧ (q ≠ y → dpt xs q < dpt xs y ∧ noKid xs xs.length q = false) := by
  intro y
  induction y using Nat.strongRecOn with
  | ind y ih =>
    intro hy v hv
    by_cases h0 : y = 0
    · subst h0; rw [up_zero] at hv; simp at hv; exact ⟨0, hv, Nat.le_refl _, Int.le_refl _, fun h => absurd rfl h⟩
    · obtain ⟨p, hp, hpy⟩ := hu y (by omega) hy
      have hd := dpt_step (by omega) hy hp hpy
      rw [up_step hu (by omega) hy hp hpy] at hv
      rcases List.mem_cons.1 hv with rfl | hv
      · exact ⟨y, rfl, Nat.le_refl _, Int.le_refl _, fun h => absurd rfl h⟩
      · obtain ⟨q, h1, h2, h3, h4⟩ := ih p hpy (by omega) v hv
        refine ⟨q, h1, by omega, by omega, fun _ => ⟨by omega, ?_⟩⟩
        by_cases e : q = p
        · rw [e]; exact noKid_no hy hp
        · exact (h4 e).2
theorem up_inj {xs : List Int} (hu : ∀ j, 1 ≤ j → j < xs.length → ∃ p : Nat, nth xs j = p ∧ p < j) : ∀ y, y < xs.length → ∀ a b : Nat, (a : Int) ∈ up xs y → (b : Int) ∈ up xs y → dpt xs a = dpt xs b → a = b := by
  intro y
  induction y using Nat.strongRecOn with
  | ind y ih =>
    intro hy a b ha hb hab
    by_cases h0 : y = 0
    · subst h0; rw [up_zero] at ha hb; simp at ha hb; omega
    · obtain ⟨p, hp, hpy⟩ := hu y (by omega) hy
      have hd := dpt_step (by omega) hy hp hpy
      rw [up_step hu (by omega) hy hp hpy] at ha hb
      rcases List.mem_cons.1 ha with ha | ha <;> rcases List.mem_cons.1 hb with hb | hb
      · omega
      · obtain ⟨q, h1, _, h3, _⟩ := up_dpt hu p (by omega) _ hb
        have e1 : a = y := by omega
        have e2 : b = q := by omega
        rw [e1, e2] at hab; omega
      · obtain ⟨q, h1, _, h3, _⟩ := up_dpt hu p (by omega) _ ha
        have e1 : b = y := by omega
        have e2 : a = q := by omega
        rw [e1, e2] at hab; omega
      · exact ih p hpy (by omega) a b ha hb hab
theorem up_has {xs : List Int} (hu : ∀ j, 1 ≤ j → j < xs.length → ∃ p : Nat, nth xs j = p ∧ p < j) {d : Int} (hd : 0 ≤ d) : ∀ y, y < xs.length → d ≤ dpt xs y → ∃ q : Nat, (q : Int) ∈ up xs y ∧ q ≤ y ∧ dpt xs q = d := by
  intro y
  induction y using Nat.strongRecOn with
  | ind y ih =>
    intro hy hdy
    by_cases e : dpt xs y = d
    · exact ⟨y, hasB_mem.1 (under_self hu hy), Nat.le_refl _, e⟩
    · by_cases h0 : y = 0
      · subst h0; rw [dpt_root (by omega)] at hdy e; omega
      · obtain ⟨p, hp, hpy⟩ := hu y (by omega) hy
        have hs := dpt_step (by omega) hy hp hpy
        obtain ⟨q, h1, h2, h3⟩ := ih p hpy (by omega) (by omega)
        exact ⟨q, by rw [up_step hu (by omega) hy hp hpy]; exact List.mem_cons_of_mem _ h1, by omega, h3⟩
theorem cut_iff {xs ys : List Int} {d : Int} {x : Nat} : inCut xs ys d x = true ↔ dpt xs x = d ∨ (dpt xs x < d ∧ 0 < nth ys x) := by
  unfold inCut dpt; simp
/-- A cut meets the way to an end once. -/
theorem cut_one {xs ys : List Int} (hg : good xs ys = true) {d : Int} {y : Nat} (hy : y < xs.length) {a b : Nat} (ha : (a : Int) ∈ up xs y) (hb : (b : Int) ∈ up xs y) (ca : inCut xs ys d a = true) (cb : inCut xs ys d b = true) : a = b := by
  have hu := good_upL hg
  rw [cut_iff] at ca cb
  have key : ∀ q : Nat, (q : Int) ∈ up xs y → (dpt xs q < d ∧ 0 < nth ys q) → q = y := fun q hq hh => by
    obtain ⟨z, h1, h2, _, h4⟩ := up_dpt hu y hy _ hq
    have e : q = z := by omega
    subst e
    by_cases e : q = y
    · exact e
    · have h5 := wt_end hg (x := q) (by omega)
      rw [(h4 e).2] at h5
      have := of_decide_eq_false h5
      omega
  have top : ∀ q : Nat, (q : Int) ∈ up xs y → dpt xs q ≤ dpt xs y := fun q hq => by
    obtain ⟨z, h1, _, h3, _⟩ := up_dpt hu y hy _ hq
    have e : q = z := by omega
    rw [e]; exact h3
  rcases ca with ca | ca <;> rcases cb with cb | cb
  · exact up_inj hu y hy a b ha hb (by omega)
  · have e := key b hb cb; have := top a ha; rw [e] at cb; omega
  · have e := key a ha ca; have := top b hb; rw [e] at ca; omega
  · rw [key a ha ca, key b hb cb]
theorem cut_some {xs ys : List Int} (hg : good xs ys = true) {d : Int} (hd : 0 ≤ d) {y : Nat} (hy : y < xs.length) (he : 0 < nth ys y) : ∃ q : Nat, (q : Int) ∈ up xs y ∧ q < xs.length ∧ inCut xs ys d q = true := by
  have hu := good_upL hg
  by_cases h : dpt xs y < d
  · exact ⟨y, hasB_mem.1 (under_self hu hy), hy, cut_iff.2 (.inr ⟨h, he⟩)⟩
  · obtain ⟨q, h1, h2, h3⟩ := up_has hu hd y hy (by omega)
    exact ⟨q, h1, by omega, cut_iff.2 (.inl h3)⟩
end Go.Proofs.Ytombfbmcplefgaa
/- Plain: a tree up to a depth. -/
namespace Go.Proofs.Ytombfbmcplefgaa
open Go.ChangeShapes Go.WideShapes Go.ChangeAt Go.RowKit

def prKeep (xs : List Int) (d : Int) (x : Nat) : Bool := decide (dpt xs x ≤ d)
def prAt (xs : List Int) (d : Int) (x : Nat) : Int := ((pick (prKeep xs d) x).length : Nat)
def prPar (xs : List Int) (d : Int) (x : Nat) : Int := if x = 0 then -1 else prAt xs d (nth xs x).toNat
def prWt (xs ys : List Int) (d : Int) (x : Nat) : Int := if dpt xs x = d then nth (sumsL xs ys) x else nth ys x
def selK (keep : Nat → Bool) (f : Nat → Int) (k : Nat) : List Int := ((List.range k).filter keep).map f
theorem selK_yes {keep : Nat → Bool} {f : Nat → Int} {k : Nat} (h : keep k = true) : selK keep f (k + 1) = selK keep f k ++ [f k] := by
  unfold selK; rw [List.range_succ, List.filter_append]; simp [h]
theorem selK_no {keep : Nat → Bool} {f : Nat → Int} {k : Nat} (h : keep k = false) : selK keep f (k + 1) = selK keep f k := by
  unfold selK; rw [List.range_succ, List.filter_append]; simp [h]
theorem selK_len (keep : Nat → Bool) (f : Nat → Int) (k : Nat) : (selK keep f k).length = (pick keep k).length := by simp [selK, pick]
theorem selK_le (keep : Nat → Bool) (f : Nat → Int) (k : Nat) : (selK keep f k).length ≤ k := by rw [selK_len]; exact pick_len _ _
theorem selK_mem {keep : Nat → Bool} {f : Nat → Int} {k j : Nat} (h : j < (selK keep f k).length) : ∃ x, x < k ∧ keep x = true ∧ nth (selK keep f k) j = f x := by
  have hm := nth_mem h
  unfold selK at hm
  obtain ⟨x, hx, e⟩ := List.mem_map.1 hm
  obtain ⟨h1, h2⟩ := List.mem_filter.1 hx
  exact ⟨x, List.mem_range.1 h1, h2, e.symm⟩
def prP (xs : List Int) (d : Int) (k : Nat) : List Int := selK (prKeep xs d) (prPar xs d) k
def prW (xs ys : List Int) (d : Int) (k : Nat) : List Int := selK (prKeep xs d) (prWt xs ys d) k
def prA (xs : List Int) (d : Int) (k : Nat) : List Int := (List.range k).map (prAt xs d)
theorem prA_succ (xs : List Int) (d : Int) (k : Nat) : prA xs d (k + 1) = prA xs d k ++ [prAt xs d k] := by
  unfold prA; rw [List.range_succ, List.map_append]; rfl
theorem prA_len (xs : List Int) (d : Int) (k : Nat) : (prA xs d k).length = k := by simp [prA]
theorem prA_nth (xs : List Int) (d : Int) {k j : Nat} (h : j < k) : nth (prA xs d k) j = prAt xs d j := by simp [prA, nth, List.getD, h]
/-- The program's places, while they are laid. -/
def prT (xs : List Int) (d : Int) (n k : Nat) : List Int := (List.range n).map fun j => if j < k ∧ prKeep xs d j = true then prAt xs d j else 0
theorem prT_len (xs : List Int) (d : Int) (n k : Nat) : (prT xs d n k).length = n := by simp [prT]
theorem prT_nth {xs : List Int} {d : Int} {n k j : Nat} (h : j < n) : nth (prT xs d n k) j = if j < k ∧ prKeep xs d j = true then prAt xs d j else 0 := by
  simp [prT, nth, List.getD, h]
theorem prT_zero (xs : List Int) (d : Int) (n : Nat) : prT xs d n 0 = List.replicate n 0 := by
  refine list_nth (by simp [prT]) fun j hj => ?_
  rw [prT_len] at hj; rw [prT_nth hj, if_neg (by omega), nth_zero]
theorem prT_yes {xs : List Int} {d : Int} {n k : Nat} (h : k < n) (hk : prKeep xs d k = true) : (prT xs d n k).set k (prAt xs d k) = prT xs d n (k + 1) := by
  refine list_nth (by simp [prT_len]) fun j hj => ?_
  simp only [List.length_set, prT_len] at hj
  rw [nth_set _ _ _ _ (by rw [prT_len]; exact h), prT_nth hj, prT_nth hj]
  by_cases e : j = k
  · subst e; rw [if_pos rfl, if_pos ⟨by omega, hk⟩]
  · rw [if_neg e]
    by_cases e2 : j < k
    · by_cases e3 : prKeep xs d j = true
      · rw [if_pos ⟨e2, e3⟩, if_pos ⟨by omega, e3⟩]
      · rw [if_neg (fun h => e3 h.2), if_neg (fun h => e3 h.2)]
    · rw [if_neg (fun h => e2 h.1), if_neg (fun h => by omega)]
theorem prT_no {xs : List Int} {d : Int} {n k : Nat} (hk : prKeep xs d k = false) : prT xs d n (k + 1) = prT xs d n k := by
  refine list_nth (by simp [prT_len]) fun j hj => ?_
  rw [prT_len] at hj
  rw [prT_nth hj, prT_nth hj]
  by_cases e3 : prKeep xs d j = true
  · have : j ≠ k := fun e => by rw [e, hk] at e3; cases e3
    by_cases e2 : j < k
    · rw [if_pos ⟨by omega, e3⟩, if_pos ⟨e2, e3⟩]
    · rw [if_neg (fun h => by omega), if_neg (fun h => e2 h.1)]
  · rw [if_neg (fun h => e3 h.2), if_neg (fun h => e3 h.2)]
theorem pr_root {xs : List Int} {d : Int} (h : 1 ≤ xs.length) (hd : 0 ≤ d) : prKeep xs d 0 = true := by
  unfold prKeep; rw [dpt_root h]; exact decide_eq_true hd
theorem pr_par {xs : List Int} {d : Int} {x p : Nat} (h1 : 1 ≤ x) (hx : x < xs.length) (hp : nth xs x = p) (hpx : p < x) (hk : prKeep xs d x = true) : prKeep xs d p = true ∧ prPar xs d x = prAt xs d p := by
  have h2 := dpt_step h1 hx hp hpx
  unfold prKeep at *
  have h3 := of_decide_eq_true hk
  refine ⟨decide_eq_true (by omega), ?_⟩
  unfold prPar; rw [if_neg (by omega), hp, Int.toNat_natCast]
theorem pr_wt {xs ys : List Int} (hg : good xs ys = true) (d : Int) {x : Nat} (hx : x < xs.length) :
    ((dpt xs x = d ∨ noKid xs xs.length x = true) → prWt xs ys d x = nth (sumsL xs ys) x) ∧ (¬ dpt xs x = d → noKid xs xs.length x = false → prWt xs ys d x = 0) := by
  have hw := good_wt hg x
  have he := wt_end hg hx
  refine ⟨fun h => ?_, fun h1 h2 => ?_⟩
  · unfold prWt
    by_cases e : dpt xs x = d
    · rw [if_pos e]
    · rw [if_neg e]
      have hn := h.resolve_left e
      have := sums_node hg x
      rw [List.eq_nil_of_length_eq_zero ((kids_nil hg hx).2 hn)] at this
      rw [this]; simp [lsum]
  · unfold prWt; rw [if_neg h1]
    rw [h2] at he
    have := of_decide_eq_false he
    omega
theorem prWt_bd {xs ys : List Int} (hg : good xs ys = true) (d : Int) (x : Nat) : 0 ≤ prWt xs ys d x ∧ prWt xs ys d x ≤ 480 := by
  have h1 := good_wt hg x
  have h2 := sums_bd hg x
  unfold prWt; split
  · omega
  · omega
theorem prAt_bd (xs : List Int) (d : Int) (x : Nat) : 0 ≤ prAt xs d x ∧ prAt xs d x ≤ x := by
  have := pick_len (prKeep xs d) x
  unfold prAt; omega
theorem prP_bd {xs ys : List Int} (hg : good xs ys = true) (d : Int) : Bd (prP xs d xs.length) := by
  intro j
  by_cases h : j < (prP xs d xs.length).length
  · obtain ⟨x, hx, _, e⟩ := selK_mem h
    change nth (prP xs d xs.length) j = prPar xs d x at e
    rw [e]; unfold prPar; split
    · exact ⟨by decide, by decide⟩
    · have h1 := prAt_bd xs d (nth xs x).toNat
      obtain ⟨p, hp, hpx⟩ := good_upL hg x (by omega) hx
      rw [hp, Int.toNat_natCast] at h1 ⊢
      have := (good_len hg).2.1
      omega
  · have : nth (prP xs d xs.length) j = 0 := by unfold nth; rw [List.getD_eq_getElem?_getD, List.getElem?_eq_none (by omega)]; rfl
    rw [this]; exact ⟨by decide, by decide⟩
theorem prW_bd {xs ys : List Int} (hg : good xs ys = true) (d : Int) : Bd (prW xs ys d xs.length) := by
  intro j
  by_cases h : j < (prW xs ys d xs.length).length
  · obtain ⟨x, hx, _, e⟩ := selK_mem h
    change nth (prW xs ys d xs.length) j = prWt xs ys d x at e
    have := prWt_bd hg d x
    rw [e]; omega
  · have : nth (prW xs ys d xs.length) j = 0 := by unfold nth; rw [List.getD_eq_getElem?_getD, List.getElem?_eq_none (by omega)]; rfl
    rw [this]; exact ⟨by decide, by decide⟩
noncomputable def prIn (xs ys : List Int) (d : Int) : Bool := good xs ys && decide (0 ≤ d)
noncomputable def prOk (xs ys : List Int) (d : Int) : Bool := prIn xs ys d && good (prP xs d xs.length) (prW xs ys d xs.length)
noncomputable def prRP (xs ys : List Int) (d : Int) : List Int := prPick (prOk xs ys d) (prP xs d xs.length)
noncomputable def prRW (xs ys : List Int) (d : Int) : List Int := prPick (prOk xs ys d) (prW xs ys d xs.length)
theorem prOk_no {xs ys : List Int} {d : Int} (h : prIn xs ys d = false) : prOk xs ys d = false := by unfold prOk; rw [h]; rfl
theorem prOk_yes {xs ys : List Int} {d : Int} (h : prIn xs ys d = true) : prOk xs ys d = good (prP xs d xs.length) (prW xs ys d xs.length) := by unfold prOk; rw [h]; rfl
theorem prRP_no {xs ys : List Int} {d : Int} (h : prIn xs ys d = false) : prRP xs ys d = [] := by unfold prRP; rw [prOk_no h]; rfl
theorem prRW_no {xs ys : List Int} {d : Int} (h : prIn xs ys d = false) : prRW xs ys d = [] := by unfold prRW; rw [prOk_no h]; rfl
theorem prRP_yes {xs ys : List Int} {d : Int} (h : prIn xs ys d = true) : prRP xs ys d = prPick (good (prP xs d xs.length) (prW xs ys d xs.length)) (prP xs d xs.length) := by unfold prRP; rw [prOk_yes h]
theorem prRW_yes {xs ys : List Int} {d : Int} (h : prIn xs ys d = true) : prRW xs ys d = prPick (good (prP xs d xs.length) (prW xs ys d xs.length)) (prW xs ys d xs.length) := by unfold prRW; rw [prOk_yes h]
theorem prRP_len (xs ys : List Int) (d : Int) (hn : xs.length ≤ 1048576) : (prRP xs ys d).length ≤ 1048576 := by
  unfold prRP
  cases prOk xs ys d with
  | false => simp [prPick]
  | true => show (prP _ _ _).length ≤ _; have := selK_le (prKeep xs d) (prPar xs d) xs.length; unfold prP; omega
theorem prRW_len (xs ys : List Int) (d : Int) (hn : xs.length ≤ 1048576) : (prRW xs ys d).length ≤ 1048576 := by
  unfold prRW
  cases prOk xs ys d with
  | false => simp [prPick]
  | true => show (prW _ _ _ _).length ≤ _; have := selK_le (prKeep xs d) (prWt xs ys d) xs.length; unfold prW; omega
end Go.Proofs.Ytombfbmcplefgaa
