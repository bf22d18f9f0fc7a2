/- The walk of FnExactSplitString. -/
import Derived.Test.YtfpokpgkkjibfaaDoorSpl
namespace Go.Proofs.YtfpokpgkkjibfaaDoor
open Go.ChangeShapes Go.WideShapes Go.ChangeAt Go.RowKit
open Go.ChangeMaps (open_string shut_string)
theorem below_drewS {w w' : World} {n : Nat} (h : w' = w.drewN n) : Below w.heap.size w w' := by rw [h]; exact Below.drewN' (Below.refl _ _) n
theorem partsB_le (c : UInt8) (s : ByteArray) : (partsB c s).length ≤ s.size + 1 := by
  rw [countB_parts]
  have := Lib.countB_le (⟨#[c]⟩ : ByteArray) (Nat.le_refl 1) s.size s (Nat.le_refl _)
  omega
theorem split_two (s p : ByteArray) (hs : s.size ≤ 1048576) (hp : p.size ≤ 1048576) : ∃ L b, L.length ≤ 4001 ∧ (∀ w, Calls Tryd.prog 29 #[.string s, .string p] w (RetSB w L b)) ∧ (∀ w, MaxC w → Calls Tryd.prog 30 #[.string s, .string p] w (RetSB w L b)) := by
  by_cases h : p.size = 1 ∧ s.size ≤ 4000
  · obtain ⟨h1, h2⟩ := h
    obtain ⟨c, rfl⟩ := Lib.one_byte p h1
    exact ⟨partsB c s, true, by have := partsB_le c s; omega, fun w => specSplit_yes s c w h2, fun w hM => implSplit_yes s c w h2 hM⟩
  · exact ⟨[], false, by simp, fun w => specSplit_no s p w hs hp h, fun w _ => implSplit_no s p w hs hp h⟩
set_option maxRecDepth 100000 in
theorem FnExactSplitString_walk (s p : ByteArray) (hs : s.size ≤ maxLen) (hp : p.size ≤ maxLen) (w : World) (hM : MaxC w) :
    Calls Tryd.prog 6 #[.string s, .string p] w fun e w' => e = .returned (.bool true) ∧ Below w.heap.size w w' := by
  unfold maxLen at hs hp
  by_cases hbs : s.size ≤ 1048576
  case neg =>
    go_enter Tryd.func6, Tryd.ntmps6
    go_wp2
    go_ret
    exact ⟨rfl, Below.refl _ _⟩
  by_cases hbp : p.size ≤ 1048576
  case neg =>
    go_enter Tryd.func6, Tryd.ntmps6
    go_wp2
    go_ret
    exact ⟨rfl, Below.refl _ _⟩
  obtain ⟨L, b, hL, h1, h2⟩ := split_two s p hbs hbp
  have H1 := Lib.hid h1
  have H2 := Lib.hid h2
  clear h1 h2
  have hml := smarks_len 1 L.length
  go_enter Tryd.func6, Tryd.ntmps6
  go_wp2_with fail
  refine (H1.out _).mono ?_
  rintro e w1 ⟨A1, c1, rfl, hO1, hb1⟩
  have hw := hb1
  have hz1 := hb1.size
  have hS1 := hO1.strs
  clear hO1 hb1
  go_wp2_with fail
  refine (H2.out _ (hM.below hw)).mono ?_
  rintro e w2 ⟨A2, c2, rfl, hO2, hb2⟩
  have hw2 := hb2
  replace hw := keep_below hb2 hw
  clear hb2
  go_wp2_with fail
  refine (eqStringS_same _ _ _ _ L _ hO2.strs (hS1.below hw2) (by omega)).mono ?_
  rintro e w3 ⟨rfl, n3, hw3⟩
  have hb3 := below_drewS hw3
  clear hw3
  replace hw := keep_below hb3 hw
  replace hO2 := hO2.below hb3
  replace hw2 := hw2.trans (hb3.mono hw2.size)
  clear hb3
  go_wp2_with fail
  refine (markStringS_own A2 c2 1 L _ _ hO2 (by omega) (by omega) (by omega)).mono ?_
  rintro e w4 ⟨rfl, hO4, hk4⟩
  replace hk4 := hk4 hw2.size
  have hw14 := hw2.trans hk4
  replace hw := hw.trans (hk4.mono hz1)
  clear hw2 hk4 hO2
  go_wp2_with fail
  refine (heldStringS_any A2 c2 L.length 1 _ hO4.strs (by omega) (by omega) (by omega)).mono ?_
  rintro e w5 ⟨rfl, hb5⟩
  replace hw := keep_below hb5 hw
  replace hw14 := keep_below hb5 hw14
  replace hO4 := hO4.below hb5
  clear hb5
  go_wp2_with fail
  refine (H2.out _ (hM.below hw)).mono ?_
  rintro e w6 ⟨A6, c6, rfl, hO6, hb6⟩
  replace hw := keep_below hb6 hw
  replace hw14 := keep_below hb6 hw14
  replace hO4 := hO4.below hb6
  clear hb6
  go_wp2_with fail
  refine (eqStringS_same _ _ _ _ L _ hO6.strs (hS1.below hw14) (by omega)).mono ?_
  rintro e w7 ⟨rfl, n7, hw7⟩
  have hb7 := below_drewS hw7
  clear hw7
  replace hw := keep_below hb7 hw
  replace hO4 := hO4.below hb7
  clear hb7 hO6 hw14
  go_wp2_with fail
  refine (heldStringS_any A2 c2 L.length 1 _ hO4.strs (by omega) (by omega) (by omega)).mono ?_
  rintro e w8 ⟨rfl, hb8⟩
  replace hw := keep_below hb8 hw
  clear hb8 hO4
  go_wp2
  go_ret
  exact ⟨rfl, hw⟩
end Go.Proofs.YtfpokpgkkjibfaaDoor
