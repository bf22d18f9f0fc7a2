/- Contracts: what makes a tree (the program's and the reference's). -/
import Derived.Test.YtfpokpgkkjibfaaDoorTree4
namespace Go.Proofs.YtfpokpgkkjibfaaDoor
open Go.ChangeShapes Go.WideShapes Go.ChangeAt Go.RowKit

/-- The head of a tree: its size and its root. -/
def HeadOk (xs ys : List Int) : Prop := (1 ≤ xs.length ∧ xs.length ≤ 24) ∧ ys.length = xs.length ∧ nth xs 0 = -1
/-- Parent x is before x. -/
def upOk (xs : List Int) (x : Nat) : Bool := decide (0 ≤ nth xs x ∧ nth xs x ≤ (x : Int) - 1)
def UpOk (xs : List Int) (k : Nat) : Prop := ∀ x, 1 ≤ x → x < k → upOk xs x = true
/-- The weight of x fits: 1 to 20 at an end, else 0. -/
def wtOk (xs ys : List Int) (x : Nat) : Bool := if noKid xs xs.length x then decide (1 ≤ nth ys x ∧ nth ys x ≤ 20) else nth ys x == 0
def WtOk (xs ys : List Int) (k : Nat) : Prop := ∀ x, x < k → wtOk xs ys x = true
def Good (xs ys : List Int) : Prop := HeadOk xs ys ∧ UpOk xs xs.length ∧ WtOk xs ys xs.length
open Classical in
noncomputable def good (xs ys : List Int) : Bool := decide (Good xs ys)
theorem good_yes {xs ys : List Int} (h : Good xs ys) : good xs ys = true := by simp [good, h]
theorem good_no {xs ys : List Int} (h : ¬ Good xs ys) : good xs ys = false := by simp [good, h]
theorem good_iff {xs ys : List Int} : good xs ys = true ↔ Good xs ys := by simp [good]
theorem UpOk.lt {xs : List Int} (h : UpOk xs xs.length) (h0 : nth xs 0 = -1) : ∀ y, y < xs.length → nth xs y < xs.length := by
  intro y hy
  by_cases e : y = 0
  · subst e; omega
  · have := of_decide_eq_true (h y (by omega) hy); omega
theorem UpOk.succ {xs : List Int} {k : Nat} (h : UpOk xs k) (hk : upOk xs k = true) : UpOk xs (k + 1) := fun x h1 h2 => by
  by_cases e : x = k
  · subst e; exact hk
  · exact h x h1 (by omega)
theorem WtOk.succ {xs ys : List Int} {k : Nat} (h : WtOk xs ys k) (hk : wtOk xs ys k = true) : WtOk xs ys (k + 1) := fun x h2 => by
  by_cases e : x = k
  · subst e; exact hk
  · exact h x (by omega)

/-- The first part of IsTree: the head is not in order. -/
theorem isTree_head (A B : Option Addr) (c e : Nat) (xs ys : List Int) (w : World) (h : IntS w A xs) (k : IntS w B ys) (hx : Bd xs) (hn : xs.length ≤ 1048576) (hm : ys.length ≤ 1048576) (hh : ¬ HeadOk xs ys) :
    Calls Tryd.prog 66 #[.agg #[.slice A xs.length c, .slice B ys.length e]] w fun e' w' => e' = .returned (.bool false) ∧ Below w.heap.size w w' := by
  by_cases h1 : 1 ≤ xs.length ∧ xs.length ≤ 24
  · by_cases h2 : ys.length = xs.length
    · have h3 : nth xs 0 ≠ -1 := fun h3 => hh ⟨h1, h2, h3⟩
      obtain ⟨b, o, rfl, hc⟩ := h.at_ (j := 0) (by omega)
      rw [Nat.add_zero] at hc
      have hb : b < w.heap.size := World.block_lt_of_cell? w _ hc
      have hd : (nth xs 0 != -1) = true := by simpa using h3
      have hp : 0 < xs.length := h1.1
      have hz : ((xs.length : Int) != (xs.length : Int)) = false := by simp
      rw [h2]
      clear h3 hh h k hx
      go_enter Tryd.func66, Tryd.ntmps66
      go_wp2_with (go_at_call 48; refine (within_yes _ _ _ _ (by omega) (by omega)).mono ?_; rintro e w' ⟨rfl, rfl⟩)
      go_ret
      exact ⟨rfl, by (repeat (first | with_reducible exact Below.refl _ _ | with_reducible assumption | with_reducible refine Below.alloc' ?_ ?_ _ | with_reducible refine Below.setCell' ?_ ?_ _ | with_reducible refine Below.drewN' ?_ _ | with_reducible refine Below.drew ?_ | with_reducible refine Below.transA ?_ (by assumption) ?_ | omega | (focus (simp; done)) | (focus (simp; omega))))⟩
    · have hd : ((ys.length : Int) != (xs.length : Int)) = true := by simp; omega
      clear hh h k hx
      go_enter Tryd.func66, Tryd.ntmps66
      go_wp2_with (go_at_call 48; refine (within_yes _ _ _ _ (by omega) (by omega)).mono ?_; rintro e w' ⟨rfl, rfl⟩)
      go_ret
      exact ⟨rfl, by (repeat (first | with_reducible exact Below.refl _ _ | with_reducible assumption | with_reducible refine Below.alloc' ?_ ?_ _ | with_reducible refine Below.setCell' ?_ ?_ _ | with_reducible refine Below.drewN' ?_ _ | with_reducible refine Below.drew ?_ | with_reducible refine Below.transA ?_ (by assumption) ?_ | omega | (focus (simp; done)) | (focus (simp; omega))))⟩
  · clear hh h k hx
    go_enter Tryd.func66, Tryd.ntmps66
    go_wp2_with (go_at_call 48; refine (within_no _ _ _ _ (by omega)).mono ?_; rintro e w' ⟨rfl, rfl⟩)
    go_ret
    exact ⟨rfl, by (repeat (first | with_reducible exact Below.refl _ _ | with_reducible assumption | with_reducible refine Below.alloc' ?_ ?_ _ | with_reducible refine Below.setCell' ?_ ?_ _ | with_reducible refine Below.drewN' ?_ _ | with_reducible refine Below.drew ?_ | with_reducible refine Below.transA ?_ (by assumption) ?_ | omega | (focus (simp; done)) | (focus (simp; omega))))⟩

set_option maxHeartbeats 2000000 in
set_option maxRecDepth 100000 in
theorem isTree_body (A B : Option Addr) (c e : Nat) (xs ys : List Int) (w : World) (h : IntS w A xs) (k : IntS w B ys) (hx : Bd xs) (hy : Bd ys) (hh : HeadOk xs ys) :
    Calls Tryd.prog 66 #[.agg #[.slice A xs.length c, .slice B ys.length e]] w fun e' w' => e' = .returned (.bool (good xs ys)) ∧ Below w.heap.size w w' := by
  obtain ⟨h1, h2, h3⟩ := id hh
  obtain ⟨b0, o0, hA, hc0⟩ := h.at_ (j := 0) (by omega)
  rw [Nat.add_zero, h3] at hc0
  subst hA
  have hb0 : b0 < w.heap.size := World.block_lt_of_cell? w _ hc0
  obtain ⟨n, hn'⟩ : ∃ n, n = xs.length := ⟨_, rfl⟩
  have HN : Hid (n = xs.length) := hn'
  rw [h2, ← hn']
  rw [← hn'] at h1
  obtain ⟨h10, h11⟩ := h1
  have hp : 0 < n := h10
  have HH := Lib.hid hh
  have HY : Hid (ys.length = n) := by rw [hn']; exact h2
  clear hh h2 h3 hn'
  generalize hg : good xs ys = r
  have HG := Lib.hid hg
  clear hg
  go_enter Tryd.func66, Tryd.ntmps66
  go_wp2_with (go_at_call 48; refine (within_yes _ _ _ _ (by omega) (by omega)).mono ?_; rintro e w' ⟨rfl, rfl⟩)
  go_loopw [4] (fun i wr => ∃ j : Nat, 1 ≤ j ∧ j ≤ n ∧ i = .int .i64 j ∧ UpOk xs j ∧ wr = w.alloc (.cells #[.slice (some ⟨b0, o0, none⟩) n c, .slice B n e] 34)) (fun i _ => n - (intOf i).toNat)
  case atStart => exact ⟨1, by omega, by omega, rfl, fun x h1 h2 => by omega, rfl⟩
  case round =>
    obtain ⟨j, hj1, hjn, rfl, hup, rfl⟩ := hrel
    by_cases hlt : j < n
    · obtain ⟨b, o, hA, hc⟩ := h.at_ (j := j) (by rw [← HN.out]; exact hlt)
      have hbx := hx j
      cases hA
      cases hu : upOk xs j
      · have hr : r = false := by rw [← HG.out]; exact good_no fun hG => by rw [hG.2.1 j hj1 (by rw [← HN.out]; exact hlt)] at hu; cases hu
        subst hr
        have hnu : ¬ (0 ≤ nth xs j ∧ nth xs j ≤ (j : Int) - 1) := of_decide_eq_false hu
        have hj2 : (0 : Int) ≤ (j : Int) - 1 := by omega
        clear hu hup
        go_wp2_with (go_at_call 48; refine (within_no _ _ _ _ (by omega)).mono ?_; rintro e w' ⟨rfl, rfl⟩)
        go_ret
        exact ⟨rfl, by (repeat (first | with_reducible exact Below.refl _ _ | with_reducible assumption | with_reducible refine Below.alloc' ?_ ?_ _ | with_reducible refine Below.setCell' ?_ ?_ _ | with_reducible refine Below.drewN' ?_ _ | with_reducible refine Below.drew ?_ | with_reducible refine Below.transA ?_ (by assumption) ?_ | omega | (focus (simp; done)) | (focus (simp; omega))))⟩
      · have hyu := of_decide_eq_true hu
        have hup' := hup.succ hu
        clear hu hup
        go_wp2_with (go_at_call 48; refine (within_yes _ _ _ _ (by omega) (by omega)).mono ?_; rintro e w' ⟨rfl, rfl⟩)
        go_roundw
        case rel => exact ⟨j + 1, by omega, by omega, by go_num, hup', by trivial⟩
        case measure => simp [intOf]; omega
    · have hjn' : j = n := by omega
      subst hjn'
      have HUp : UpOk xs xs.length := by rw [← HN.out]; exact hup
      have HE := fun W (hW : IntS W (some ⟨b0, o0, none⟩) xs) => isEnd_exact (some ⟨b0, o0, none⟩) B c j e xs W hW (by rw [← HN.out]; omega) (Lib.hid (HUp.lt HH.out.2.2))
      rw [← HN.out] at HE
      have HE' := Lib.hid HE
      clear HE hup
      go_wp2_with fail
      refine (HE'.out _ (h.alloc _)).mono ?_
      rintro e1 w1 ⟨rfl, rfl⟩
      go_wp2
      have HG2 : Hid (∀ q, q < j → wtOk xs ys q = if noKid xs j q then decide (1 ≤ nth ys q ∧ nth ys q ≤ 20) else nth ys q == 0) := fun q _ => by unfold wtOk; rw [HN.out]
      go_loopw [44] (fun i wr => ∃ q : Nat, q ≤ j ∧ i = .int .i64 q ∧ WtOk xs ys q ∧ wr = ((w.alloc (.cells #[.slice (some ⟨b0, o0, none⟩) j c, .slice B j e] 34)).alloc (.cells #[.slice (some ⟨b0, o0, none⟩) j c, .slice B j e] 34)).alloc (.cells (bArr j (noKid xs j)) 4)) (fun i _ => j - (intOf i).toNat)
      case atStart => exact ⟨0, by omega, rfl, fun x h2 => by omega, rfl⟩
      case round =>
        obtain ⟨q, hq, rfl, hwt, rfl⟩ := hrel
        by_cases hlt : q < j
        · obtain ⟨b, o, rfl, hc⟩ := k.at_ (j := q) (by rw [HY.out]; exact hlt)
          have hb : b < w.heap.size := World.block_lt_of_cell? w _ hc
          have hb1 : b < w.heap.size + 1 := by omega
          have hb2 : b < w.heap.size + 1 + 1 := by omega
          have hat := bArr_at j (noKid xs j) hlt
          have hby := hy q
          have hwq := HG2.out q hlt
          have hbad : wtOk xs ys q = false → r = false := fun hf => by
            rw [← HG.out]; exact good_no fun hG => by rw [hG.2.2 q (by rw [← HN.out]; exact hlt)] at hf; cases hf
          cases hk : noKid xs j q
          · rw [hk, if_neg (by simp)] at hwq
            rw [hk] at hat
            by_cases hz : nth ys q = 0
            · have hwt' := hwt.succ (k := q) (by rw [hwq]; simpa using hz)
              rw [hz] at hc
              clear hwt hwq hbad hk hz hby
              go_wp2
              go_roundw
              case rel => exact ⟨q + 1, by omega, by go_num, hwt', by trivial⟩
              case measure => simp [intOf]; omega
            · have hr : r = false := hbad (by rw [hwq]; simpa using hz)
              subst hr
              have hzb : (nth ys q != 0) = true := by simpa using hz
              clear hwt hwq hbad hk hz hby
              go_wp2
              go_ret
              exact ⟨rfl, by (repeat (first | with_reducible exact Below.refl _ _ | with_reducible assumption | with_reducible refine Below.alloc' ?_ ?_ _ | with_reducible refine Below.setCell' ?_ ?_ _ | with_reducible refine Below.drewN' ?_ _ | with_reducible refine Below.drew ?_ | with_reducible refine Below.transA ?_ (by assumption) ?_ | omega | (focus (simp; done)) | (focus (simp; omega))))⟩
          · rw [hk, if_pos rfl] at hwq
            rw [hk] at hat
            by_cases hz : 1 ≤ nth ys q ∧ nth ys q ≤ 20
            · have hwt' := hwt.succ (k := q) (by rw [hwq]; simpa using hz)
              clear hwt hwq hbad hk hby
              go_wp2_with (go_at_call 48; refine (within_yes _ _ _ _ (by omega) (by omega)).mono ?_; rintro e w' ⟨rfl, rfl⟩)
              go_roundw
              case rel => exact ⟨q + 1, by omega, by go_num, hwt', by trivial⟩
              case measure => simp [intOf]; omega
            · have hr : r = false := hbad (by rw [hwq]; exact decide_eq_false hz)
              subst hr
              clear hwt hwq hbad hk hby
              go_wp2_with (go_at_call 48; refine (within_no _ _ _ _ (by omega)).mono ?_; rintro e w' ⟨rfl, rfl⟩)
              go_ret
              exact ⟨rfl, by (repeat (first | with_reducible exact Below.refl _ _ | with_reducible assumption | with_reducible refine Below.alloc' ?_ ?_ _ | with_reducible refine Below.setCell' ?_ ?_ _ | with_reducible refine Below.drewN' ?_ _ | with_reducible refine Below.drew ?_ | with_reducible refine Below.transA ?_ (by assumption) ?_ | omega | (focus (simp; done)) | (focus (simp; omega))))⟩
        · have hqj : q = j := by omega
          subst hqj
          have hr : r = true := by
            rw [← HG.out]; exact good_yes ⟨HH.out, HUp, by rw [← HN.out]; exact hwt⟩
          subst hr
          clear hwt
          go_wp2
          go_ret
          exact ⟨rfl, by (repeat (first | with_reducible exact Below.refl _ _ | with_reducible assumption | with_reducible refine Below.alloc' ?_ ?_ _ | with_reducible refine Below.setCell' ?_ ?_ _ | with_reducible refine Below.drewN' ?_ _ | with_reducible refine Below.drew ?_ | with_reducible refine Below.transA ?_ (by assumption) ?_ | omega | (focus (simp; done)) | (focus (simp; omega))))⟩

theorem isTree_any (A B : Option Addr) (c e : Nat) (xs ys : List Int) (w : World) (h : IntS w A xs) (k : IntS w B ys) (hx : Bd xs) (hy : Bd ys) (hn : xs.length ≤ 1048576) (hm : ys.length ≤ 1048576) :
    Calls Tryd.prog 66 #[.agg #[.slice A xs.length c, .slice B ys.length e]] w fun e' w' => e' = .returned (.bool (good xs ys)) ∧ Below w.heap.size w w' := by
  by_cases hh : HeadOk xs ys
  · exact isTree_body A B c e xs ys w h k hx hy hh
  · rw [good_no fun hG => hh hG.1]
    exact isTree_head A B c e xs ys w h k hx hn hm hh
end Go.Proofs.YtfpokpgkkjibfaaDoor
