/- Contracts: the reference's draws of texts and numbers: some value within bounds. -/
import Derived.Test.YtfpokpgkkjibfaaDoorDrawF
import Derived.Test.YtfpokpgkkjibfaaDoorRead
import Derived.Test.YtfpokpgkkjibfaaDoorJoin
import Derived.StillTailTactics
namespace Go.Proofs.YtfpokpgkkjibfaaDoor
open Go.ChangeShapes Go.WideShapes Go.ChangeAt Go.RowKit
open Go.ChangeMaps (open_string shut_string)

theorem byt_ltS {w : World} {C : Option Addr} {n b o : Nat} (h : Byt w C n) (hn : 0 < n) (e : C = some ⟨b, o, none⟩) : b < w.heap.size := by
  obtain ⟨b', o', v, e', hc, _⟩ := h 0 hn
  rw [e] at e'; injection e' with e'; injection e' with e1 e2; subst e1
  exact World.block_lt_of_cell? _ _ hc
theorem cur_newS (W : World) (C : Option Addr) (n cc : Nat) : CurB (W.alloc (.cells #[.slice C n cc, .int .i64 0, .int .u64 0] 60)) W.heap.size C n cc 0 :=
  ⟨0, 0, heap_alloc_new W _, Nat.le_refl _, by omega, by omega⟩
theorem list_StrS (W : World) (L : List ByteArray) : StrS (W.alloc (.cells (strs L).toArray 9)) (some ⟨W.heap.size, 0, none⟩) L :=
  OwnSS.strs (B := W.heap.size) (.inr ⟨_, rfl, Nat.le_refl _, _, heap_alloc_new W _, [], by simp⟩)
theorem kept_alloc {w w' : World} {g : Nat} {o : Obj} (h : KeptBut (w.alloc o) w' g g) : KeptBut w w' g g :=
  (kept_below (KeptBut.refl2 w g) ((Below.refl _ _).alloc (Nat.le_refl _) o)).trans2 h

set_option maxHeartbeats 1000000 in
theorem of_draw {g n cc m : Nat} {C : Option Addr} (A : Option Addr) (c : Nat) (L : List ByteArray) (w : World) (h : CurB w g C n cc m) (hB : Byt w C n) (hne : ∀ b o, 0 < n → C = some ⟨b, o, none⟩ → b ≠ g) (hm : m + 1 ≤ 1000000) (hn : n ≤ 1000000) (hA : StrS w A L) (hAg : ∀ b o, A = some ⟨b, o, none⟩ → b ≠ g) (hx : 1 ≤ L.length ∧ L.length ≤ 1000) :
    Calls Tryd.prog 53 #[.pointer (some ⟨g, 0, none⟩), .slice A L.length c] w fun e w' => ∃ b ∈ L, e = .returned (.string b) ∧ Drew w g C n cc (m + 2) w' := by
  have HP := Lib.hid (pick_draw (L.length : Int) w h hB hne hm hn (by omega))
  clear hne
  go_enter Tryd.func53, Tryd.ntmps53
  go_wp2_with fail
  refine HP.out.mono ?_
  rintro e1 w1 ⟨r, rfl, h0, h1, hd⟩
  obtain ⟨j, rfl⟩ := Int.eq_ofNat_of_zero_le h0
  have hj : j < L.length := by omega
  obtain ⟨b, o, rfl, hc⟩ := hA j _ (List.getElem?_eq_getElem hj)
  have hc2 := hd.2.cell hc (hAg b o rfl) (hAg b o rfl)
  have i1 : (j : Int) < L.length := h1
  have hmem := Lib.hid (List.getElem_mem hj)
  clear hAg
  generalize L[j] = x at *
  go_wp2
  go_ret
  exact ⟨x, hmem.out, rfl, hd⟩
def any1L : List ByteArray := [⟨#[]⟩, ⟨#[97]⟩, ⟨#[97, 44, 98]⟩, ⟨#[115, 111, 109, 101, 32, 119, 111, 114, 100, 115]⟩, ⟨#[120, 35, 121]⟩, ⟨#[45, 49, 50]⟩, ⟨#[0, 255]⟩, ⟨#[44, 44]⟩, ⟨#[48]⟩]
theorem any1_small : ∀ b ∈ any1L, b.size ≤ 16 := by decide
set_option maxHeartbeats 1000000 in
theorem any1_draw {g n cc m : Nat} {C : Option Addr} (w : World) (h : CurB w g C n cc m) (hB : Byt w C n) (hne : ∀ b o, 0 < n → C = some ⟨b, o, none⟩ → b ≠ g) (hm : m + 1 ≤ 1000000) (hn : n ≤ 1000000) :
    Calls Tryd.prog 56 #[.pointer (some ⟨g, 0, none⟩)] w fun e w' => ∃ b : ByteArray, b.size ≤ 16 ∧ e = .returned (.string b) ∧ Drew w g C n cc (m + 2) w' := by
  have hlt := h.lt
  have hb0 : Below w.heap.size w (w.alloc (.cells (strs any1L).toArray 9)) := (Below.refl _ _).alloc (Nat.le_refl _) _
  have HP := Lib.hid (of_draw (some ⟨w.heap.size, 0, none⟩) 9 any1L (w.alloc (.cells (strs any1L).toArray 9)) (h.below hb0) (hB.below hb0) hne hm hn (list_StrS w any1L) (fun b o e => by injection e with e; injection e with e; omega) ⟨by decide, by decide⟩)
  clear hne
  go_enter Tryd.func56, Tryd.ntmps56
  go_wp2_with fail
  refine HP.out.mono ?_
  rintro e1 w1 ⟨b, hb, rfl, hd⟩
  go_wp2
  go_ret
  exact ⟨b, any1_small b hb, rfl, hd.1, kept_alloc hd.2⟩
end Go.Proofs.YtfpokpgkkjibfaaDoor
