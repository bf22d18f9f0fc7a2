/- The walk of FnExactJoinStrings. -/
import Derived.Test.YtfpokpgkkjibfaaJoinZ
namespace Go.Proofs.Ytfpokpgkkjibfaa
open Go.ChangeShapes Go.WideShapes Go.ChangeAt Go.RowKit
open Go.ChangeMaps (open_string shut_string)
set_option maxRecDepth 100000 in
theorem FnExactJoinStrings_walk (A : Option Addr) (n cp : Nat) (L : List ByteArray) (p : ByteArray) (w : World) (hP : L.length = n ∧ n ≤ cp ∧ cp ≤ maxLen ∧ (∀ b ∈ L, b.size ≤ maxLen) ∧ StrS w A L) (hp : p.size ≤ maxLen) :
    Calls Try.prog 3 #[.slice A n cp, .string p] w fun e w' => e = .returned (.bool true) ∧ Below w.heap.size w w' := by
  obtain ⟨rfl, hnc, hcm, hbz, hS⟩ := hP
  have hHZ := Lib.hid (szStringS_any A cp L w hS (Nat.le_trans hnc hcm) hbz)
  unfold maxLen at hp hcm
  by_cases hbig : p.size ≤ 1048576
  case neg =>
    clear hHZ
    go_enter Try.func3, Try.ntmps3
    go_wp2
    go_ret
    exact ⟨rfl, Below.refl _ _⟩
  clear hbz
  by_cases hw : L.length + wgtS L ≤ 1048576
  case neg =>
    have HW := Lib.hid hw
    clear hw
    go_enter Try.func3, Try.ntmps3
    go_wp2_with fail
    refine hHZ.out.mono ?_
    rintro e w1 ⟨⟨z, rfl, hz⟩, rfl⟩
    have hz2 : z = -1 := by
      rcases hz with h | h
      · exact absurd h.2.2 HW.out
      · exact h.1
    subst hz2
    clear hz
    go_wp2
    go_ret
    exact ⟨rfl, Below.refl _ _⟩
  have HW := Lib.hid hw
  have hl : L.length ≤ 1048576 := by omega
  have hzz : ∀ b ∈ L, b.size ≤ 1048576 := fun b hb => by have := wgtS_mem hb; omega
  obtain ⟨q, b, h1, h2⟩ := join_two L p hl hzz
  have H1 := Lib.hid h1
  have H2 := Lib.hid h2
  clear h1 h2 hzz hw
  go_enter Try.func3, Try.ntmps3
  go_wp2_with fail
  refine hHZ.out.mono ?_
  rintro e w1 ⟨⟨z, rfl, hz⟩, rfl⟩
  have hz0 : 0 ≤ z ∧ z ≤ 1048576 := by
    rcases hz with h | h
    · exact ⟨h.1, h.2.1⟩
    · exact absurd HW.out h.2
  obtain ⟨hz1, hz2⟩ := hz0
  clear hz hHZ
  go_wp2_with fail
  refine (toStringS_any A cp L _ hS hl).mono ?_
  rintro e w2 ⟨rfl, hr2, hb2⟩
  go_wp2_with fail
  refine (H1.out _ _ _ (OwnSS.strs (.inr ⟨_, rfl, Nat.le_refl _, hr2⟩))).mono ?_
  rintro e w3 ⟨rfl, hb3⟩
  have hw3 := keep_below hb3 hb2
  clear hb2 hb3 hr2
  go_wp2_with fail
  refine (toStringS_any A cp L _ (hS.below hw3) hl).mono ?_
  rintro e w4 ⟨rfl, hr4, hb4⟩
  have hw4 := keep_below hb4 hw3
  clear hb4 hw3
  go_wp2_with fail
  refine (H2.out _ _ _ (OwnSS.strs (.inr ⟨_, rfl, Nat.le_refl _, hr4⟩)) (Nat.le_refl _)).mono ?_
  rintro e w5 ⟨rfl, hb5⟩
  have hw5 := keep_below hb5 hw4
  replace hr4 := hr4.below hb5
  clear hb5 hw4
  go_wp2_with fail
  refine (toStringS_any A cp L _ (hS.below hw5) hl).mono ?_
  rintro e w6 ⟨rfl, hr6, hb6⟩
  have hw6 := keep_below hb6 hw5
  replace hr4 := hr4.below hb6
  clear hb6 hw5
  go_wp2_with fail
  refine (eqStringS_same _ _ _ _ L _ (OwnSS.strs (.inr ⟨_, rfl, Nat.le_refl _, hr4⟩)) (OwnSS.strs (.inr ⟨_, rfl, Nat.le_refl _, hr6⟩)) hl).mono ?_
  rintro e w7 ⟨rfl, n7, rfl⟩
  go_wp2
  go_ret
  exact ⟨rfl, Below.drewN' hw6 _⟩
end Go.Proofs.Ytfpokpgkkjibfaa
