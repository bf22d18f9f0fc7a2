/- The laws' own functions on lists of pairs of ints: equality, marks. -/
import Derived.Test.YtombfbmcplefgaaMgMn6
import Derived.Test.YtombfbmcplefgaaMgMn3
namespace Go.Proofs.Ytombfbmcplefgaa
open Go.ChangeShapes Go.WideShapes Go.ChangeAt Go.RowKit

/-- A slice of pairs reads as L. -/
def Prs (w : World) (A : Option Addr) (L : List (Int × Int)) : Prop := 1 ≤ L.length → ∃ g, A = some ⟨g, 0, none⟩ ∧ Row2 w g L
def OwnU2 (w : World) (U : Nat) (A : Option Addr) (L : List (Int × Int)) : Prop := (A = none ∧ L = []) ∨ ∃ g, A = some ⟨g, 0, none⟩ ∧ g < U ∧ Row2 w g L
theorem Prs.below {w w' : World} {A : Option Addr} {L : List (Int × Int)} (h : Prs w A L) (hb : Below w.heap.size w w') : Prs w' A L := fun hl => by
  obtain ⟨g, h1, h2⟩ := h hl
  exact ⟨g, h1, h2.below hb⟩
theorem OwnS2.prs {w : World} {B : Nat} {A : Option Addr} {L : List (Int × Int)} (h : OwnS2 w B A L) : Prs w A L := fun hl => by
  obtain ⟨g, h1, _, h2⟩ := h.pos hl
  exact ⟨g, h1, h2⟩
theorem OwnU2.prs {w : World} {U : Nat} {A : Option Addr} {L : List (Int × Int)} (h : OwnU2 w U A L) : Prs w A L := fun hl => by
  rcases h with ⟨_, e⟩ | ⟨g, h1, _, h2⟩
  · rw [e] at hl; simp at hl
  · exact ⟨g, h1, h2⟩
theorem OwnS2.upper {w : World} {B : Nat} {A : Option Addr} {L : List (Int × Int)} (h : OwnS2 w B A L) : OwnU2 w w.heap.size A L := by
  rcases h with h | ⟨g, h1, _, h3⟩
  · exact .inl h
  · exact .inr ⟨g, h1, h3.lt, h3⟩
theorem OwnU2.below {w w' : World} {U : Nat} {A : Option Addr} {L : List (Int × Int)} (h : OwnU2 w U A L) (hb : Below w.heap.size w w') : OwnU2 w' U A L := by
  rcases h with h | ⟨g, h1, h2, h3⟩
  · exact .inl h
  · exact .inr ⟨g, h1, h2, h3.below hb⟩
theorem KeptBut.row2 {w w' : World} {p q : Nat} (h : KeptBut w w' p q) {g : Nat} {L : List (Int × Int)} (hr : Row2 w g L) (hp : g ≠ p) (hq : g ≠ q) : Row2 w' g L := hr.of_block (h.block g hr.lt hp hq)
theorem KeptBut.own2 {w w' : World} {p q B : Nat} (h : KeptBut w w' p q) {A : Option Addr} {L : List (Int × Int)} (ho : OwnS2 w B A L) (hp : p < B) (hq : q < B) : OwnS2 w' B A L := by
  rcases ho with ho | ⟨g, h1, h2, h3⟩
  · exact .inl ho
  · exact .inr ⟨g, h1, h2, h.row2 h3 (by omega) (by omega)⟩
theorem KeptBut.ownU2 {w w' : World} {p q U : Nat} (h : KeptBut w w' p q) {A : Option Addr} {L : List (Int × Int)} (ho : OwnU2 w U A L) (hp : U ≤ p) (hq : U ≤ q) : OwnU2 w' U A L := by
  rcases ho with ho | ⟨g, h1, h2, h3⟩
  · exact .inl ho
  · exact .inr ⟨g, h1, h2, h.row2 h3 (by omega) (by omega)⟩

set_option maxHeartbeats 1000000 in
set_option maxRecDepth 100000 in
theorem eqIntA2S_same (A B : Option Addr) (c e : Nat) (L : List (Int × Int)) (w : World) (h : Prs w A L) (k : Prs w B L) (hn : L.length ≤ maxLen) :
    Calls Try.prog 30 #[.slice A L.length c, .slice B L.length e] w fun e w' => e = .returned (.bool true) ∧ Below w.heap.size w w' := by
  unfold maxLen at hn
  go_enter Try.func30, Try.ntmps30
  go_wp2
  go_loopw [5] (fun i wr => ∃ k : Nat, k ≤ L.length ∧ i = .int .i64 k ∧ Below w.heap.size w wr) (fun i _ => L.length - (intOf i).toNat)
  case atStart => exact ⟨0, Nat.zero_le _, rfl, Below.refl _ _⟩
  case round =>
    obtain ⟨j, hj, rfl, hw⟩ := hrel
    by_cases hlt : j < L.length
    · obtain ⟨g1, rfl, hr1⟩ := (h.below hw) (by omega)
      obtain ⟨g2, rfl, hr2⟩ := (k.below hw) (by omega)
      have c1 := hr1.cell0 hlt
      have c2 := hr1.cell1 hlt
      have c3 := hr2.cell0 hlt
      have c4 := hr2.cell1 hlt
      have i1 : (j : Int) < L.length := by omega
      clear h k hr1 hr2
      obtain ⟨a, ha⟩ : ∃ a, (nthp L j).1 = a := ⟨_, rfl⟩
      obtain ⟨b, hb⟩ : ∃ b, (nthp L j).2 = b := ⟨_, rfl⟩
      rw [ha] at c1 c3
      rw [hb] at c2 c4
      clear ha hb
      go_wp2
      go_still_tail 8, (by kernel_rfl)
      change wpList _ _ _ _ _ wr.drew
      go_wp2_with fail
      refine (eqIntA2_yes a b _).mono ?_
      rintro e1 w2 ⟨rfl, hb2⟩
      replace hw := keep_below hb2 hw.drew
      clear hb2
      go_wp2
      go_roundw
      case rel => exact ⟨j + 1, by omega, by go_num, hw⟩
      case measure => simp [intOf]; omega
    · go_wp2
      go_ret
      exact ⟨rfl, hw⟩

def pmarks (s : Int) (n : Nat) : List (Int × Int) := (List.range n).map fun (i : Nat) => (s + ((i * 2 : Nat) : Int), s + ((i * 2 + 1 : Nat) : Int))
theorem pmarks_len (s : Int) (n : Nat) : (pmarks s n).length = n := by simp [pmarks]
theorem pmarks_nth (s : Int) (n j : Nat) (h : j < n) : nthp (pmarks s n) j = (s + ((j * 2 : Nat) : Int), s + ((j * 2 + 1 : Nat) : Int)) := by
  simp [nthp, pmarks, List.getD, h]
theorem pmarks_cells (s : Int) (n : Nat) : i64p (pmarks s n) = (List.range (n * 2)).map fun (j : Nat) => Value.int .i64 (s + (j : Int)) := by
  induction n with
  | zero => rfl
  | succ n ih =>
    have e : pmarks s (n + 1) = pmarks s n ++ [(s + ((n * 2 : Nat) : Int), s + ((n * 2 + 1 : Nat) : Int))] := by
      unfold pmarks; rw [List.range_succ, List.map_append]; rfl
    have e2 : (n + 1) * 2 = n * 2 + 1 + 1 := by omega
    rw [e, i64p_app, ih, e2, List.range_succ, List.range_succ, List.map_append, List.map_append, List.append_assoc]; rfl
/-- The block's first k cells are marked from s on. -/
def Mkd2 (wr : World) (g : Nat) (s : Int) (k n : Nat) : Prop := ∃ cs : Array Value, wr.heap[g]? = some (.cells cs 51 (0, 0)) ∧ n ≤ cs.size ∧ ∀ j, j < k → cs[j]? = some (.int .i64 (s + (j : Int)))
theorem Mkd2.cell {wr : World} {g : Nat} {s : Int} {k n : Nat} (h : Mkd2 wr g s k n) {j : Nat} (hj : j < n) : ∃ u, wr.cell? ⟨g, j, none⟩ = some u := by
  obtain ⟨cs, h, hn, _⟩ := h
  exact ⟨cs[j], by rw [cell_of_row _ _ _ _ _ _ h, Array.getElem?_eq_getElem (by omega)]⟩
theorem Mkd2.free {wr : World} {g : Nat} {s : Int} {k n : Nat} (h : Mkd2 wr g s k n) (j : Nat) : wr.frozen? ⟨g, j, none⟩ = false := by
  obtain ⟨cs, h, hn, _⟩ := h
  unfold World.frozen?; rw [h]; simp
theorem Mkd2.next {wr : World} {g : Nat} {s v : Int} {k n : Nat} (h : Mkd2 wr g s k n) (hk : k < n) (hv : v = s + (k : Int)) : Mkd2 (wr.setCell ⟨g, k, none⟩ (.int .i64 v)) g s (k + 1) n := by
  subst hv
  obtain ⟨cs, h, hn, hc⟩ := h
  refine ⟨_, set_block h k _, by simpa using hn, fun j hj => ?_⟩
  rw [Array.getElem?_setIfInBounds]
  by_cases e : k = j
  · subst e; rw [if_pos rfl, if_pos (by omega)]
  · rw [if_neg e]; exact hc j (by omega)
theorem Mkd2.row {wr : World} {g : Nat} {s : Int} {n : Nat} (h : Mkd2 wr g s (n * 2) (n * 2)) : Row2 wr g (pmarks s n) := by
  obtain ⟨cs, h, hn, hc⟩ := h
  refine ⟨cs, h, cs.toList.drop (n * 2), ?_⟩
  have : i64p (pmarks s n) = cs.toList.take (n * 2) := by
    rw [pmarks_cells]
    apply List.ext_getElem
    · simp; omega
    · intro j h1 h2
      simp at h1
      have h3 := hc j h1
      rw [Array.getElem?_eq_getElem (by omega)] at h3
      simp
      exact (Option.some.inj h3).symm
  rw [this, List.take_append_drop]
theorem Row2.marked {w : World} {g : Nat} {L : List (Int × Int)} (h : Row2 w g L) (s : Int) : Mkd2 w g s 0 (L.length * 2) := by
  obtain ⟨cs, h, r, hr⟩ := h
  refine ⟨cs, h, ?_, fun j hj => absurd hj (by omega)⟩
  have := congrArg List.length hr
  simp [i64p_len] at this; omega
theorem int_eq {a b : Int} (h : a = b) : Value.int .i64 a = .int .i64 b := by rw [h]

set_option maxHeartbeats 1000000 in
set_option maxRecDepth 100000 in
theorem markIntA2S_row (g c : Nat) (L : List (Int × Int)) (s : Int) (w : World) (h : Row2 w g L) (hn : L.length ≤ 2000000) (h0 : 0 ≤ s) (h1 : s ≤ 100000000) :
    Calls Try.prog 31 #[.slice (some ⟨g, 0, none⟩) L.length c, .int .i64 s] w fun e w' => e = .returned (.int .i64 (s + ((L.length * 2 : Nat) : Int))) ∧ Row2 w' g (pmarks s L.length) ∧ w.grownBy w' (some g) := by
  have hm := h.marked s
  clear h
  obtain ⟨n, hn'⟩ : ∃ n, n = L.length := ⟨_, rfl⟩
  rw [← hn'] at hm hn ⊢
  clear hn' L
  go_enter Try.func31, Try.ntmps31
  go_wp2
  go_loopw [1, 5] (fun q i wr => ∃ k : Nat, k ≤ n ∧ i = .int .i64 k ∧ q = .int .i64 (s + ((k * 2 : Nat) : Int)) ∧ Mkd2 wr g s (k * 2) (n * 2) ∧ w.grownBy wr (some g)) (fun _ i _ => n - (intOf i).toNat)
  case atStart => exact ⟨0, Nat.zero_le _, rfl, by simp, hm, World.grownBy.refl w _⟩
  case round =>
    obtain ⟨j, hj, rfl, rfl, hmk, hgr⟩ := hrel
    by_cases hlt : j < n
    · obtain ⟨u, hu⟩ := hmk.cell (j := j * 2) (by omega)
      have hf := hmk.free (j * 2)
      have hnx := hmk.next (v := s + ((j * 2 : Nat) : Int)) (by omega) rfl
      obtain ⟨u', hu'⟩ := hnx.cell (j := j * 2 + 1) (by omega)
      have hf' := hnx.free (j * 2 + 1)
      have hnx2 := hnx.next (v := s + ((j * 2 : Nat) : Int) + 1) (by omega) (by omega)
      have hgn := grown_set (grown_set hgr (j * 2) (.int .i64 (s + ((j * 2 : Nat) : Int)))) (j * 2 + 1) (.int .i64 (s + ((j * 2 : Nat) : Int) + 1))
      clear hmk hgr hm hnx
      have hj2 : ((j * 2 : Nat) : Int) ≤ 4000000 := by omega
      have hj3 : 0 ≤ ((j * 2 : Nat) : Int) := by omega
      obtain ⟨m, hm⟩ : ∃ m : Int, ((j * 2 : Nat) : Int) = m := ⟨_, rfl⟩
      rw [hm] at hj2 hj3 hu' hf' hnx2 hgn ⊢
      have HM := Lib.hid hm
      clear hm
      go_wp2
      refine wp_loop_rounds 3 ?_
      rw [rounds_succ]
      go_wp2
      rw [rounds_succ]
      go_wp2
      rw [rounds_succ]
      go_wp2
      go_roundw
      case rel => exact ⟨j + 1, by omega, by go_num, int_eq (by have := HM.out; omega), by rw [show (j + 1) * 2 = j * 2 + 1 + 1 from by omega]; exact hnx2, hgn⟩
      case measure => simp [intOf]; omega
    · have hjn : j = n := by omega
      have hr : Hid ((s + ((j * 2 : Nat) : Int)) = s + ((n * 2 : Nat) : Int)) := by show _ = _; rw [hjn]
      rw [hjn] at hmk
      have hrow := hmk.row
      clear hjn hmk hm
      go_wp2
      go_ret
      exact ⟨ret_int hr.out, hrow, hgr⟩

theorem markIntA2S_own (A : Option Addr) (c : Nat) (L : List (Int × Int)) (s : Int) (w : World) (B : Nat) (h : OwnS2 w B A L) (hn : L.length ≤ 2000000) (h0 : 0 ≤ s) (h1 : s ≤ 100000000) :
    Calls Try.prog 31 #[.slice A L.length c, .int .i64 s] w fun e w' => e = .returned (.int .i64 (s + ((L.length * 2 : Nat) : Int))) ∧ OwnS2 w' B A (pmarks s L.length) ∧ ∃ g, B ≤ g ∧ KeptBut w w' g g := by
  rcases h with ⟨rfl, rfl⟩ | ⟨g, rfl, hB, hr⟩
  · go_enter Try.func31, Try.ntmps31
    go_wp2
    refine wp_loop_rounds 1 ?_
    rw [rounds_succ]
    go_wp2
    go_ret
    exact ⟨by simp, .inl ⟨rfl, rfl⟩, B, Nat.le_refl _, rfl, rfl, rfl, Nat.le_refl _, fun _ _ _ _ => rfl⟩
  · refine (markIntA2S_row g c L s w hr hn h0 h1).mono fun e w' ⟨he, hr', hg⟩ => ⟨he, .inr ⟨g, rfl, hB, hr'⟩, g, hB, hg.os, hg.tape, hg.output, hg.size, fun k hk hp _ => hg.block k hk (fun e => hp (by injection e))⟩

set_option maxHeartbeats 1000000 in
set_option maxRecDepth 100000 in
theorem heldIntA2S_any (A : Option Addr) (c n : Nat) (s : Int) (w : World) (h : Prs w A (pmarks s n)) (hn : n ≤ 2000000) (h0 : 0 ≤ s) (h1 : s ≤ 100000000) :
    Calls Try.prog 32 #[.slice A n c, .int .i64 s] w fun e w' => e = .returned (.int .i64 (s + ((n * 2 : Nat) : Int))) ∧ w = w' := by
  go_enter Try.func32, Try.ntmps32
  go_wp2
  go_loop [1, 5] (fun q i => ∃ k : Nat, k ≤ n ∧ i = .int .i64 k ∧ q = .int .i64 (s + ((k * 2 : Nat) : Int))) (fun _ i => n - (intOf i).toNat)
  case atStart => exact ⟨0, Nat.zero_le _, rfl, by simp⟩
  case round =>
    obtain ⟨j, hj, rfl, rfl⟩ := hrel
    by_cases hlt : j < n
    · obtain ⟨g, rfl, hr⟩ := h (by rw [pmarks_len]; omega)
      have hc0 := hr.cell0 (j := j) (by rw [pmarks_len]; exact hlt)
      have hc1 := hr.cell1 (j := j) (by rw [pmarks_len]; exact hlt)
      rw [pmarks_nth _ _ _ hlt] at hc0 hc1
      rw [show s + ((j * 2 + 1 : Nat) : Int) = s + ((j * 2 : Nat) : Int) + 1 from by omega] at hc1
      clear h hr
      have hj2 : ((j * 2 : Nat) : Int) ≤ 4000000 := by omega
      have hj3 : 0 ≤ ((j * 2 : Nat) : Int) := by omega
      obtain ⟨m, hm⟩ : ∃ m : Int, ((j * 2 : Nat) : Int) = m := ⟨_, rfl⟩
      rw [hm] at hj2 hj3 hc0 hc1 ⊢
      have HM := Lib.hid hm
      clear hm
      go_wp2
      refine wp_loop_rounds 3 ?_
      rw [rounds_succ]
      go_wp2
      rw [rounds_succ]
      go_wp2
      rw [rounds_succ]
      go_wp2
      go_round
      case rel => exact ⟨j + 1, by omega, by go_num, int_eq (by have := HM.out; omega)⟩
      case measure => simp [intOf]; omega
    · have hjn : j = n := by omega
      have hr : Hid ((s + ((j * 2 : Nat) : Int)) = s + ((n * 2 : Nat) : Int)) := by show _ = _; rw [hjn]
      clear hjn
      go_wp2
      go_ret
      exact ⟨ret_int hr.out, rfl⟩
end Go.Proofs.Ytombfbmcplefgaa
