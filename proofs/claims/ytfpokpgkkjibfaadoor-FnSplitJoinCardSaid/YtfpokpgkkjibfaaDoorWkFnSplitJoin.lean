/- The walk of FnSplitJoin. -/
import Derived.Test.YtfpokpgkkjibfaaDoorSplJ
import Derived.Test.YtfpokpgkkjibfaaDoorByts
namespace Go.Proofs.YtfpokpgkkjibfaaDoor
open Go.ChangeShapes Go.WideShapes Go.ChangeAt Go.RowKit
open Go.ChangeMaps (open_string shut_string)
set_option maxHeartbeats 4000000 in
set_option maxRecDepth 100000 in
theorem FnSplitJoin_walk (C : Option Addr) (n cc : Nat) (w : World) (hC : n ≤ cc ∧ cc ≤ maxLen ∧ Byt w C n) (hM : MaxC w) :
    Calls Tryd.prog 9 #[.slice C n cc] w fun e w' => e = .returned (.bool true) ∧ Below w.heap.size w w' := by
  obtain ⟨_, _, hB⟩ := hC
  by_cases hbig : 65536 < n
  · have HBg := Lib.hid (fun W => vBig_any C n cc W)
    rw [decide_eq_true hbig] at HBg
    clear hB
    go_enter Tryd.func9, Tryd.ntmps9
    go_wp2_with fail
    refine (HBg.out _).mono ?_
    rintro e1 w1 ⟨rfl, rfl⟩
    go_wp2
    go_ret
    exact ⟨rfl, Below.refl _ _⟩
  have HBg := Lib.hid (fun W => vBig_any C n cc W)
  rw [decide_eq_false hbig] at HBg
  have hn : n ≤ 1000000 := by omega
  have hw := Below.refl w.heap.size w
  have HD1 := Lib.hid (fun W (h : Byt W C n) => drawSplit_any C n cc W h hn)
  have HD2 := Lib.hid (fun W (h : Byt W C n) => drawJoin_any C n cc W h hn)
  have HD3 := Lib.hid (fun W (h : Byt W C n) => drawLess_any C n cc W h hn)
  clear hbig hn
  go_enter Tryd.func9, Tryd.ntmps9
  go_wp2_with fail
  refine (HBg.out _).mono ?_
  rintro e1 w1 ⟨rfl, e9⟩
  have e8 := e9.symm
  clear e9
  subst e8
  clear HBg
  go_wp2_with fail
  refine (HD1.out _ hB).mono ?_
  rintro e1 w2 ⟨s, p, hs, hp, rfl, hb⟩
  replace hB := hB.below hb
  replace hM := hM.below hb
  replace hw := keep_below hb hw
  clear hb HD1
  obtain ⟨L, ok, hL, hsp, hback⟩ := split_room s p hs hp
  have HSp := Lib.hid hsp
  have HBk := Lib.hid hback
  clear hsp hback
  go_wp2_with fail
  refine (HSp.out _ hM).mono ?_
  rintro e1 w3 ⟨A, c, rfl, hc, hO, hb⟩
  replace hB := hB.below hb
  replace hM := hM.below hb
  replace hw := keep_below hb hw
  clear hb HSp
  go_wp2_with fail
  refine (HD2.out _ hB).mono ?_
  rintro e1 w4 ⟨A2, c2, K, m, rfl, hK, hKc, hKs, hm, hO2, hb⟩
  replace hB := hB.below hb
  replace hM := hM.below hb
  replace hO := hO.below hb
  replace hw := keep_below hb hw
  clear hb HD2
  obtain ⟨q, fine, hj1, hj2⟩ := join_two K m (by omega) (fun b hb => by have := hKs b hb; omega)
  have HJ1 := Lib.hid hj1
  have HJ2 := Lib.hid hj2
  clear hj1 hj2 hKs
  go_wp2_with fail
  refine (HJ2.out _ _ _ hO2.strs hKc).mono ?_
  rintro e1 w5 ⟨rfl, hb⟩
  replace hB := hB.below hb
  replace hM := hM.below hb
  replace hO := hO.below hb
  replace hO2 := hO2.below hb
  replace hw := keep_below hb hw
  clear hb HJ2
  go_wp2_with fail
  refine (HJ1.out _ _ _ hO2.strs).mono ?_
  rintro e1 w6 ⟨rfl, hb⟩
  replace hB := hB.below hb
  replace hM := hM.below hb
  replace hO := hO.below hb
  replace hw := keep_below hb hw
  clear hb HJ1 hO2
  go_wp2_with fail
  refine (HD3.out _ hB).mono ?_
  rintro e1 w7 ⟨a, b, ha, hb9, rfl, hb⟩
  replace hO := hO.below hb
  replace hw := keep_below hb hw
  clear hb HD3 hB hM
  have HL1 := Lib.hid (fun W => implLess_J a b W)
  have HL2 := Lib.hid (fun W => specLess_J a b W)
  have HL3 := Lib.hid (fun W => implLess_J b a W)
  have hant := less_anti a.toList b.toList
  generalize Op.bytesLess a.toList b.toList = r at *
  generalize Op.bytesLess b.toList a.toList = r2 at *
  have hr2 : r = true → r2 = false := hant
  clear hant
  have hOS := hO.strs
  clear hO
  rcases HBk.out with ⟨hp1, rfl, hbk⟩ | ⟨hp1, rfl, hl0⟩
  · have hz : ((p.size : Int) != 1) = false := by rw [hp1]; rfl
    have hbk2 := Lib.hid (hbk A c w7 hc hOS)
    clear hbk HBk hp1 hOS
    cases r
    case' true => obtain rfl := hr2 rfl
    all_goals clear hr2
    all_goals
      go_wp2_with (first | (go_at_call 40; refine (HL1.out _).mono ?_; rintro e w' ⟨rfl, rfl⟩) | (go_at_call 41; refine (HL2.out _).mono ?_; rintro e w' ⟨rfl, rfl⟩) | (go_at_call 40; refine (HL3.out _).mono ?_; rintro e w' ⟨rfl, rfl⟩))
      refine hbk2.out.mono ?_
      rintro e1 w8 ⟨rfl, hb⟩
      replace hw := keep_below hb hw
      clear hb hbk2
      go_wp2
      go_ret
      exact ⟨rfl, hw⟩
  · have hz : ((p.size : Int) != 1) = true := by rw [bne_iff_ne]; omega
    clear HBk hp1 hOS
    cases r
    case' true => obtain rfl := hr2 rfl
    all_goals clear hr2
    all_goals
      go_wp2_with (first | (go_at_call 40; refine (HL1.out _).mono ?_; rintro e w' ⟨rfl, rfl⟩) | (go_at_call 41; refine (HL2.out _).mono ?_; rintro e w' ⟨rfl, rfl⟩) | (go_at_call 40; refine (HL3.out _).mono ?_; rintro e w' ⟨rfl, rfl⟩))
      go_ret
      exact ⟨by first | rfl | (rw [hl0]; rfl), hw⟩
end Go.Proofs.YtfpokpgkkjibfaaDoor
