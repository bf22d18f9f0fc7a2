/- The walk of FnStrings. -/
import Derived.Test.YtfpokpgkkjibfaaDoorStrN
import Derived.Test.YtfpokpgkkjibfaaDoorByts
import Derived.Deep.DeepCutAuto
import Derived.StillTailTactics
namespace Go.Proofs.YtfpokpgkkjibfaaDoor
open Go.ChangeShapes Go.WideShapes Go.ChangeAt Go.RowKit
open Go.ChangeMaps (open_string shut_string)
set_option maxHeartbeats 4000000 in
set_option maxRecDepth 100000 in
theorem FnStrings_walk (C : Option Addr) (n cc : Nat) (w : World) (hC : n ≤ cc ∧ cc ≤ maxLen ∧ Byt w C n) (hF : TabE w ∧ SynC w ∧ MaxC w) :
    Calls Tryd.prog 3 #[.slice C n cc] w fun e w' => e = .returned (.bool true) ∧ Below w.heap.size w w' := by
  obtain ⟨_, _, hB⟩ := hC
  obtain ⟨hT, hS, hM⟩ := hF
  by_cases hbig : 65536 < n
  · have HBg := Lib.hid (fun W => vBig_any C n cc W)
    rw [decide_eq_true hbig] at HBg
    clear hB
    go_enter Tryd.func3, Tryd.ntmps3
    go_wp2_with fail
    refine (HBg.out _).mono ?_
    rintro e1 w1 ⟨rfl, rfl⟩
    go_wp2
    go_ret
    exact ⟨rfl, Below.refl _ _⟩
  have HBg := Lib.hid (fun W => vBig_any C n cc W)
  rw [decide_eq_false hbig] at HBg
  have hn : n ≤ 1000000 := by omega
  have hw := Below.refl w.heap.size w
  have HD1 := Lib.hid (fun W (h : Byt W C n) => drawFormat_any C n cc W h hn)
  have HD2 := Lib.hid (fun W (h : Byt W C n) => drawParse_any C n cc W h hn)
  have HD3 := Lib.hid (fun W (h : Byt W C n) => drawSeal_any C n cc W h hn)
  have HV9 := Lib.hid (fun W (h : Byt W C n) => vAt_any C n cc 9 W h hn (by omega))
  have HV10 := Lib.hid (fun W (h : Byt W C n) => vAt_any C n cc 10 W h hn (by omega))
  have HT0 := Lib.hid (fun W (h : Below w.heap.size w W) => hT.below h)
  have HM0 := Lib.hid (fun W (h : Below w.heap.size w W) => hM.below h)
  clear hbig hn
  go_enter Tryd.func3, Tryd.ntmps3
  go_wp2_with fail
  refine (HBg.out _).mono ?_
  rintro e1 w1 ⟨rfl, e9⟩
  have e8 := e9.symm
  clear e9
  subst e8
  clear HBg
  go_wp2_with fail
  refine (HD1.out _ hB).mono ?_
  rintro e1 w2 ⟨a, ha0, ha1, rfl, hb⟩
  replace hB := hB.below hb
  replace hT := hT.below hb
  replace hS := hS.below hb
  replace hM := hM.below hb
  replace hw := keep_below hb hw
  clear hb HD1
  obtain ⟨s, ok, hfv, hsz, m, there, hrv, hok⟩ := fmt_partsN a
  have HI1 := Lib.hid (fun W (h : TabE W) => implFormat_any a W (by omega) h)
  have HS1 := Lib.hid (fun W => (specFormat_any a W (by omega)).mono fun e w' h => (⟨h.1, by obtain ⟨_, k, rfl⟩ := h; exact drewN_below W k⟩ : e = .returned (fmtV a) ∧ Below W.heap.size W w'))
  rw [hfv] at HI1 HS1
  have HP1 := Lib.hid (fun W (h : TabE W) (k : SynC W) => implParse_any s W hsz h k)
  rw [hrv] at HP1
  have HOK := Lib.hid hok
  clear hfv hrv hok hsz
  go_wp2_with fail
  refine (HI1.out _ hT).mono ?_
  rintro e1 w3 ⟨rfl, hb⟩
  replace hB := hB.below hb
  replace hT := hT.below hb
  replace hS := hS.below hb
  replace hM := hM.below hb
  replace hw := keep_below hb hw
  clear hb HI1
  go_wp2_with fail
  refine (HS1.out _).mono ?_
  rintro e1 w4 ⟨rfl, hb⟩
  replace hB := hB.below hb
  replace hT := hT.below hb
  replace hS := hS.below hb
  replace hM := hM.below hb
  replace hw := keep_below hb hw
  clear hb HS1
  go_wp2_with fail
  refine (HD2.out _ hB).mono ?_
  rintro e1 w5 ⟨t, ht, rfl, hb⟩
  replace hB := hB.below hb
  replace hT := hT.below hb
  replace hS := hS.below hb
  replace hM := hM.below hb
  replace hw := keep_below hb hw
  clear hb HD2
  obtain ⟨m2, fine, hrv⟩ := rd_partsN t
  have HP2 := Lib.hid (fun W (h : TabE W) (k : SynC W) => implParse_any t W (by omega) h k)
  have HS2 := Lib.hid (fun W => (specParse_any t W (by omega)).mono fun e w' h => (⟨h.1, by obtain ⟨_, k, rfl⟩ := h; exact drewN_below W k⟩ : e = .returned (rdV t) ∧ Below W.heap.size W w'))
  rw [hrv] at HP2 HS2
  clear hrv ht
  go_wp2_with fail
  refine (HP2.out _ hT hS).mono ?_
  rintro e1 w6 ⟨rfl, hb⟩
  replace hB := hB.below hb
  replace hT := hT.below hb
  replace hS := hS.below hb
  replace hM := hM.below hb
  replace hw := keep_below hb hw
  clear hb HP2
  go_wp2_with fail
  refine (HS2.out _).mono ?_
  rintro e1 w7 ⟨rfl, hb⟩
  replace hB := hB.below hb
  replace hT := hT.below hb
  replace hS := hS.below hb
  replace hM := hM.below hb
  replace hw := keep_below hb hw
  clear hb HS2
  go_wp2_with fail
  refine (HD3.out _ hB).mono ?_
  rintro e1 w8 ⟨x, hx, rfl, hb⟩
  replace hB := hB.below hb
  replace hT := hT.below hb
  replace hS := hS.below hb
  replace hM := hM.below hb
  replace hw := keep_below hb hw
  clear hb HD3
  have hxl : x.size ≤ maxLen := by unfold maxLen; omega
  have HI3 := Lib.hid (fun W (h : TabE W) => implAppend_any x W hxl h)
  have HS3 := Lib.hid (fun W => (specAppend_any x W hxl).mono fun e w' h => (⟨h.1, by obtain ⟨_, k, rfl⟩ := h; exact drewN_below W k⟩ : e = .returned (apV x) ∧ Below W.heap.size W w'))
  obtain ⟨y, sealed, hav, hy⟩ : ∃ y sealed, apV x = .tuple #[.string y, .bool sealed] ∧ ((sealed = false ∧ y = ⟨#[]⟩) ∨ (sealed = true ∧ vfOk y ∧ headB y = x ∧ 1 ≤ y.size ∧ y.size ≤ 4000 ∧ ∀ (k : Nat) (a v : UInt8), y.data.toList[k]? = some a → v ≠ a → ¬ vfOk (mkB (y.data.toList.set k v)))) := by
    rcases seal_partsN x with h | ⟨y, h, hr⟩
    · exact ⟨_, _, h, .inl ⟨rfl, rfl⟩⟩
    · exact ⟨_, _, h, .inr ⟨rfl, hr⟩⟩
  rw [hav] at HI3 HS3
  have HY := Lib.hid hy
  clear hav hy hx hxl
  go_wp2_with fail
  refine (HI3.out _ hT).mono ?_
  rintro e1 w9 ⟨rfl, hb⟩
  replace hB := hB.below hb
  replace hT := hT.below hb
  replace hS := hS.below hb
  replace hM := hM.below hb
  replace hw := keep_below hb hw
  clear hb HI3
  go_wp2_with fail
  refine (HS3.out _).mono ?_
  rintro e1 wA ⟨rfl, hb⟩
  replace hB := hB.below hb
  replace hT := hT.below hb
  replace hS := hS.below hb
  replace hM := hM.below hb
  replace hw := keep_below hb hw
  clear hb HS3
  go_wp2_with fail
  refine (HP1.out _ hT hS).mono ?_
  rintro e1 wB ⟨rfl, hb⟩
  replace hB := hB.below hb
  replace hT := hT.below hb
  replace hS := hS.below hb
  replace hM := hM.below hb
  replace hw := keep_below hb hw
  clear hb HP1 hS
  obtain hok2 : ok = false ∨ (ok = true ∧ m = a ∧ there = true) := by
    cases ok
    · exact .inl rfl
    · exact .inr ⟨rfl, HOK.out rfl⟩
  clear HOK
  rcases HY.out with ⟨rfl, rfl⟩ | ⟨rfl, hv, hhd, hy1, hy4, hch⟩
  · clear HY hB hT hM HV9 HV10
    rcases hok2 with rfl | ⟨rfl, rfl, rfl⟩
    all_goals
      go_wp2
      go_ret
      exact ⟨rfl, hw⟩
  · clear HY
    have HCh := Lib.hid hch
    clear hch
    have HVy := Lib.hid (fun W (h : TabE W) (k : MaxC W) => implVerify_any y W (by omega) true (by simp [hv]) h k)
    have hvv : vfV y true = .tuple #[.string x, .bool true] := by unfold vfV; rw [if_pos rfl, hhd]
    rw [hvv] at HVy
    clear hvv hv hhd
    rcases hok2 with rfl | ⟨rfl, rfl, rfl⟩
    all_goals
      go_wp2_with fail
      refine (HVy.out _ hT hM).mono ?_
      rintro e1 wC ⟨rfl, hb⟩
      replace hB := hB.below hb
      replace hT := hT.below hb
      replace hM := hM.below hb
      replace hw := keep_below hb hw
      clear hb HVy
      have hcv := run_bytes_of_string (P := Tryd.prog) wC 9 22 5 y Tryd.underlying9 Tryd.underlying22 Tryd.underlying5
      have hR := BytR.new wC y (grownCap wC y.size 0 5) 5
      have hbD : Below wC.heap.size wC (wC.drew.alloc (.cells (bytesRow y (grownCap wC y.size 0 5)) 5 ((bytesRow y (grownCap wC y.size 0 5)).size, (bytesRow y (grownCap wC y.size 0 5)).size + 1))) := by (repeat (first | with_reducible exact Below.refl _ _ | with_reducible assumption | with_reducible refine Below.alloc' ?_ ?_ _ | with_reducible refine Below.setCell' ?_ ?_ _ | with_reducible refine Below.drewN' ?_ _ | with_reducible refine Below.drew ?_ | with_reducible refine Below.transA ?_ (by assumption) ?_ | omega | (focus (simp; done)) | (focus (simp; omega))))
      generalize grownCap wC y.size 0 5 = cap at *
      generalize wC.drew.alloc (.cells (bytesRow y cap) 5 ((bytesRow y cap).size, (bytesRow y cap).size + 1)) = wD at *
      have hgw := hw.size
      replace hB := hB.below hbD
      replace hT := hT.below hbD
      replace hM := hM.below hbD
      replace hw := keep_below hbD hw
      clear hbD
      generalize hgC : wC.heap.size = g at *
      go_wp2_with fail
      refine (HV9.out _ hB).mono ?_
      rintro e1 w1 ⟨r9, rfl, hr0, hr1, e9⟩
      obtain rfl := e9.symm
      clear HV9
      have hyz : (1 : Int) ≤ (y.size : Int) := by omega
      have hq0 : ¬ (y.size : Int) = 0 := by omega
      have hk0 : 0 ≤ r9 % (y.size : Int) := Int.emod_nonneg _ hq0
      have hk1 : r9 % (y.size : Int) < y.size := Int.emod_lt_of_pos _ (by omega)
      obtain ⟨K, hK⟩ := Int.eq_ofNat_of_zero_le hk0
      rw [hK] at hk0 hk1
      have hKl : K < y.data.toList.length := by rw [← Lib.size_eq]; omega
      obtain ⟨b0, hb0⟩ : ∃ b0, y.data.toList[K]? = some b0 := ⟨_, List.getElem?_eq_getElem hKl⟩
      have hcK := (hR K b0 hb0).1
      have hfK := (hR K b0 hb0).2
      have hset := Lib.hid (fun v => hR.text K v cap)
      have HV := Lib.hid (fun v (h : v ≠ b0) => HCh.out K b0 v hb0 h)
      have HX := Lib.hid (fun m (h0 : 1 ≤ m) (h1 : m ≤ 255) => xor_byte b0 m h0 h1)
      clear hR HCh hKl hb0
      go_upto_region 22 with (fail)
      have hfl : ∀ (r : Int), 0 ≤ r → r ≤ 255 → 1 ≤ 1 + r % 255 ∧ 1 + r % 255 ≤ 255 := fun r h0 h1 => by omega
      go_region_with ((go_at_call 23; refine (HV10.out _ (by exact hB)).mono ?_; rintro e1 w1 ⟨r10, rfl, q0, q1, rfl⟩; have hf2 := hfl r10 q0 q1; have uu1 : IntKind.i64.wrap (1 + r10 % 255) = 1 + r10 % 255 := IntWalk.i64_in _ (by omega); have uu2 : IntKind.u8.wrap (1 + r10 % 255) = 1 + r10 % 255 := u8_in _ (by omega) (by omega); obtain ⟨v, hxv, hvb⟩ := HX.out _ hf2.1 hf2.2))
      all_goals
        have hz : bits .xor .u8 (b0.toNat : Int) (IntKind.u8.wrap (IntKind.i64.wrap (1 + r10.tmod 255))) = (v.toNat : Int) := by
          rw [Int.tmod_eq_emod_of_nonneg q0, uu1, uu2]; exact hxv
        rw [hz]
        have hbk := hset.out v
        have hnv := HV.out v hvb
        have hwE : Below w.heap.size w (wD.setCell ⟨g, K, none⟩ (.int .u8 (v.toNat : Int))).drew := (Below.setCell' (p := ⟨g, K, none⟩) hgw hw _).drew
        have hT9 := HT0.out _ hwE
        have hM9 := HM0.out _ hwE
        have hlz : (mkB (y.data.toList.set K v)).size ≤ 1048576 := by rw [mkB_size, List.length_set, ← Lib.size_eq]; omega
        have HVn := Lib.hid (implVerify_any (mkB (y.data.toList.set K v)) _ hlz false (by simp [hnv]) hT9 hM9)
        have hvv : vfV (mkB (y.data.toList.set K v)) false = .tuple #[.string ⟨#[]⟩, .bool false] := rfl
        rw [hvv] at HVn
        clear hvv hz hnv hlz hset HV HX hT9 hM9 hB hcK hfK
        generalize mkB (y.data.toList.set K v) = z at *
        generalize (wD.setCell ⟨g, K, none⟩ (.int .u8 (v.toNat : Int))).drew = wE at *
        go_wp2_with fail
        refine HVn.out.mono ?_
        rintro e1 wF ⟨rfl, hb⟩
        replace hwE := keep_below hb hwE
        go_wp2
        go_ret
        exact ⟨rfl, hwE⟩
end Go.Proofs.YtfpokpgkkjibfaaDoor
