/- Contracts: the reference's draws of numbers, texts of numbers and texts to seal; the law's byte of a code. -/
import Derived.Test.YtfpokpgkkjibfaaDoorDrawT
import Derived.Test.YtfpokpgkkjibfaaDoorTree7
import Derived.Test.YtfpokpgkkjibfaaDoorRead
namespace Go.Proofs.YtfpokpgkkjibfaaDoor
open Go.ChangeShapes Go.WideShapes Go.ChangeAt Go.RowKit
open Go.ChangeMaps (open_string shut_string)

def fmtL (r : Int) : List Int := [0, 1, -1, 10, 999999, -999999, 1000000, -1000000, r]
theorem fmtL_bd (r : Int) (h : -1000000 ≤ r ∧ r ≤ 1000000) : ∀ j, j < 9 → -1000000 ≤ nth (fmtL r) j ∧ nth (fmtL r) j ≤ 1000000 := by
  intro j hj
  have e : fmtL r = [0, 1, -1, 10, 999999, -999999, 1000000, -1000000, r] := rfl
  rw [e]
  rcases j with _ | _ | _ | _ | _ | _ | _ | _ | _ | j
  all_goals first | (simp [nth]; done) | (simp [nth]; omega) | omega
set_option maxHeartbeats 1000000 in
set_option maxRecDepth 100000 in
theorem drawFormat_any (C : Option Addr) (n cc : Nat) (w : World) (hB : Byt w C n) (hn : n ≤ 1000000) :
    Calls Tryd.prog 13 #[.slice C n cc] w fun e w' => ∃ a : Int, -1000000 ≤ a ∧ a ≤ 1000000 ∧ e = .returned (.int .i64 a) ∧ Below w.heap.size w w' := by
  have hne : ∀ b o, 0 < n → C = some ⟨b, o, none⟩ → b ≠ w.heap.size := fun b o h0 e => by have := byt_ltS hB h0 e; omega
  have HP := Lib.hid (fun q W m (h : CurB W w.heap.size C n cc m) (hb : Byt W C n) (hm : m ≤ 1000) => pick_draw q W h hb hne (by omega) hn)
  have HG := Lib.hid (fun A c xs W m (h : CurB W w.heap.size C n cc m) (hb : Byt W C n) (hm : m ≤ 1000) => among_draw A c xs W h hb hne (by omega) hn)
  have HK := Lib.hid (fun W W' (hb : Byt W C n) (hk : KeptBut W W' w.heap.size w.heap.size) => hb.kept hk hne)
  have hc := cur_newS w C n cc
  have hw : Below w.heap.size w (w.alloc (.cells #[.slice C n cc, .int .i64 0, .int .u64 0] 60)) := (Below.refl _ _).alloc (Nat.le_refl _) _
  have hB2 := hB.below hw
  clear hne hB hn
  have hp := HP.out 1000 _ _ hc hB2 (by omega) (by omega)
  go_enter Tryd.func13, Tryd.ntmps13
  go_wp2_with fail
  refine hp.mono ?_
  rintro e1 w1 ⟨r, rfl, h0, h1, hc1, hk1⟩
  have hbd := fmtL_bd (r - 500) (by omega)
  have u1 : IntKind.i64.wrap (r - 500) = r - 500 := IntWalk.i64_in _ (by omega)
  replace hw := hk1.below hw (by omega) (by omega)
  replace hB2 := HK.out _ _ hB2 hk1
  have hg1 := hc1.lt
  have hb0 : Below w1.heap.size w1 (w1.alloc (.cells (i64s (fmtL (r - 500))).toArray 3)) := (Below.refl _ _).alloc (Nat.le_refl _) _
  have hP := HG.out (some ⟨w1.heap.size, 0, none⟩) 9 (fmtL (r - 500)) (w1.alloc (.cells (i64s (fmtL (r - 500))).toArray 3)) _ (hc1.below hb0) (hB2.below hb0) (by omega) (Row.new w1 (fmtL (r - 500))).ints (fun b o e => by injection e with e; injection e with e; omega) ⟨by simp [fmtL], by simp [fmtL]⟩
  replace hw := keep_below hb0 hw
  clear hc hk1 hp hc1 hb0 HP HG HK hB2
  go_wp2_with fail
  refine hP.mono ?_
  rintro e1 w2 ⟨j, hj, rfl, hd⟩
  replace hw := hd.2.below hw (by omega) (by omega)
  have hb := hbd j hj
  clear hP hbd
  generalize nth (fmtL (r - 500)) j = a at *
  go_wp2
  go_ret
  exact ⟨a, hb.1, hb.2, rfl, hw⟩

def parL : List ByteArray := [⟨#[]⟩, ⟨#[45]⟩, ⟨#[45, 48]⟩, ⟨#[48, 48]⟩, ⟨#[48, 49]⟩, ⟨#[45, 45, 49]⟩, ⟨#[49, 120]⟩, ⟨#[57, 57, 57, 57, 57, 57]⟩, ⟨#[49, 48, 48, 48, 48, 48, 48]⟩, ⟨#[45, 57, 57, 57, 57, 57, 57]⟩, ⟨#[49, 56, 52, 52, 54, 55, 52, 52, 48, 55, 51, 55, 48, 57, 53, 53, 49, 54, 49, 55]⟩]
theorem parL_small : ∀ b ∈ parL, b.size ≤ 21 := by decide
theorem itoaB_len (n : Int) (h0 : -1000000 ≤ n) (h1 : n ≤ 1000000) : (itoaB n).size ≤ 21 := by
  have h := Lib.itoa_length_le n (by omega) (by omega)
  simpa [itoaB, ByteArray.size] using h
set_option maxHeartbeats 1000000 in
set_option maxRecDepth 100000 in
theorem drawParse_any (C : Option Addr) (n cc : Nat) (w : World) (hB : Byt w C n) (hn : n ≤ 1000000) :
    Calls Tryd.prog 16 #[.slice C n cc] w fun e w' => ∃ a : ByteArray, a.size ≤ 21 ∧ e = .returned (.string a) ∧ Below w.heap.size w w' := by
  have hne : ∀ b o, 0 < n → C = some ⟨b, o, none⟩ → b ≠ w.heap.size := fun b o h0 e => by have := byt_ltS hB h0 e; omega
  have HP := Lib.hid (fun q W m (h : CurB W w.heap.size C n cc m) (hb : Byt W C n) (hm : m ≤ 1000) => pick_draw q W h hb hne (by omega) hn)
  have HO := Lib.hid (fun q W m (h : CurB W w.heap.size C n cc m) (hb : Byt W C n) (hm : m ≤ 1000) => one_draw q W h hb hne (by omega) hn)
  have HF := Lib.hid (fun A c L W m (h : CurB W w.heap.size C n cc m) (hb : Byt W C n) (hm : m ≤ 1000) => of_draw A c L W h hb hne (by omega) hn)
  have HK := Lib.hid (fun W W' (hb : Byt W C n) (hk : KeptBut W W' w.heap.size w.heap.size) => hb.kept hk hne)
  have hc := cur_newS w C n cc
  have hw : Below w.heap.size w (w.alloc (.cells #[.slice C n cc, .int .i64 0, .int .u64 0] 60)) := (Below.refl _ _).alloc (Nat.le_refl _) _
  have hB2 := hB.below hw
  clear hne hB hn
  have hp := HO.out 2 _ _ hc hB2 (by omega) (by omega)
  go_enter Tryd.func16, Tryd.ntmps16
  go_wp2_with fail
  refine hp.mono ?_
  rintro e1 w1 ⟨z, rfl, hc1, hk1⟩
  replace hw := hk1.below hw (by omega) (by omega)
  replace hB2 := HK.out _ _ hB2 hk1
  have hg1 := hc1.lt
  clear hc hk1 hp
  cases z with
  | true =>
    have hb0 : Below w1.heap.size w1 (w1.alloc (.cells (strs parL).toArray 9)) := (Below.refl _ _).alloc (Nat.le_refl _) _
    have hP := HF.out (some ⟨w1.heap.size, 0, none⟩) 11 parL (w1.alloc (.cells (strs parL).toArray 9)) _ (hc1.below hb0) (hB2.below hb0) (by omega) (list_StrS w1 parL) (fun b o e => by injection e with e; injection e with e; omega) ⟨by decide, by decide⟩
    replace hw := keep_below hb0 hw
    clear hc1 hb0 HF HO HP HK hB2
    go_wp2_with fail
    refine hP.mono ?_
    rintro e1 w2 ⟨b, hb, rfl, hd⟩
    replace hw := hd.2.below hw (by omega) (by omega)
    clear hP
    go_wp2
    go_ret
    exact ⟨b, parL_small b hb, rfl, hw⟩
  | false =>
    have hp := HP.out 2000 _ _ hc1 hB2 (by omega) (by omega)
    clear HF HO HP HK
    go_wp2_with fail
    refine hp.mono ?_
    rintro e1 w2 ⟨r, rfl, h0, h1, hc2, hk2⟩
    have u1 : IntKind.i64.wrap (r - 1000) = r - 1000 := IntWalk.i64_in _ (by omega)
    replace hw := hk2.below hw (by omega) (by omega)
    have hN := Lib.hid (fun w => num_any (r - 1000) (by omega) (by omega) w)
    have hz := itoaB_len (r - 1000) (by omega) (by omega)
    clear hc1 hc2 hk2 hp hB2
    generalize itoaB (r - 1000) = t at *
    go_wp2_with fail
    refine (hN.out _).mono ?_
    rintro e1 w3 ⟨rfl, k, rfl⟩
    go_wp2
    go_ret
    exact ⟨t, hz, rfl, Below.drewN' hw _⟩
set_option maxHeartbeats 1000000 in
set_option maxRecDepth 100000 in
theorem drawSeal_any (C : Option Addr) (n cc : Nat) (w : World) (hB : Byt w C n) (hn : n ≤ 1000000) :
    Calls Tryd.prog 19 #[.slice C n cc] w fun e w' => ∃ a : ByteArray, a.size ≤ 4000 ∧ e = .returned (.string a) ∧ Below w.heap.size w w' := by
  have hne : ∀ b o, 0 < n → C = some ⟨b, o, none⟩ → b ≠ w.heap.size := fun b o h0 e => by have := byt_ltS hB h0 e; omega
  have HP := Lib.hid (fun q W m (h : CurB W w.heap.size C n cc m) (hb : Byt W C n) (hm : m ≤ 1000) => pick_draw q W h hb hne (by omega) hn)
  have HO := Lib.hid (fun q W m (h : CurB W w.heap.size C n cc m) (hb : Byt W C n) (hm : m ≤ 1000) => one_draw q W h hb hne (by omega) hn)
  have HA := Lib.hid (fun W m (h : CurB W w.heap.size C n cc m) (hb : Byt W C n) (hm : m ≤ 1000) => any1_draw W h hb hne (by omega) hn)
  have HK := Lib.hid (fun W W' (hb : Byt W C n) (hk : KeptBut W W' w.heap.size w.heap.size) => hb.kept hk hne)
  have hc := cur_newS w C n cc
  have hw : Below w.heap.size w (w.alloc (.cells #[.slice C n cc, .int .i64 0, .int .u64 0] 60)) := (Below.refl _ _).alloc (Nat.le_refl _) _
  have hB2 := hB.below hw
  clear hne hB hn
  have hp := HO.out 20 _ _ hc hB2 (by omega) (by omega)
  go_enter Tryd.func19, Tryd.ntmps19
  go_wp2_with fail
  refine hp.mono ?_
  rintro e1 w1 ⟨z, rfl, hc1, hk1⟩
  replace hw := hk1.below hw (by omega) (by omega)
  replace hB2 := HK.out _ _ hB2 hk1
  have hg1 := hc1.lt
  clear hc hk1 hp
  cases z with
  | true =>
    have hp := HP.out 10 _ _ hc1 hB2 (by omega) (by omega)
    clear HA HO HP HK
    go_wp2_with fail
    refine hp.mono ?_
    rintro e1 w2 ⟨r, rfl, h0, h1, hc2, hk2⟩
    obtain ⟨q, rfl⟩ := Int.eq_ofNat_of_zero_le h0
    replace hw := hk2.below hw (by omega) (by omega)
    have u1 : IntKind.i64.wrap (3990 + (q : Int)) = ((3990 + q : Nat) : Int) := by rw [IntWalk.i64_in _ (by omega)]; omega
    have hsz : (mkB (List.replicate (3990 + q) 0)).size ≤ 4000 := by rw [mkB_size, List.length_replicate]; omega
    have hmk2 := run_makeBs (3990 + q) (by omega) w2
    have hcv2 := run_zerosB (3990 + q) w2
    have hw3 := keep_below ((Below.refl w2.heap.size w2).alloc (Nat.le_refl _) (.cells (madeCells #[.int .u8 0] (3990 + q)) 5)) hw
    clear hc1 hc2 hk2 hp hB2 hw
    generalize 3990 + q = m at *
    generalize mkB (List.replicate m 0) = x at *
    go_wp2
    go_ret
    exact ⟨x, hsz, rfl, hw3⟩
  | false =>
    have hp := HA.out _ _ hc1 hB2 (by omega)
    clear HA HO HP HK
    go_wp2_with fail
    refine hp.mono ?_
    rintro e1 w2 ⟨b, hb, rfl, hc2, hk2⟩
    replace hw := hk2.below hw (by omega) (by omega)
    clear hc1 hc2 hk2 hp hB2
    go_wp2
    go_ret
    exact ⟨b, by omega, rfl, hw⟩
theorem vAt_any (C : Option Addr) (n cc : Nat) (i : Int) (w : World) (hB : Byt w C n) (hn : n ≤ 1000000) (hi : 0 ≤ i ∧ i ≤ 1000) :
    Calls Tryd.prog 23 #[.slice C n cc, .int .i64 i] w fun e w' => ∃ r : Int, e = .returned (.int .i64 r) ∧ 0 ≤ r ∧ r ≤ 255 ∧ w' = w := by
  by_cases hlt : i < n
  · obtain ⟨b, o, v, rfl, hcv, hv0, hv1⟩ := hB i.toNat (by omega)
    have i2 : decide (i < n) = true := decide_eq_true hlt
    clear hB
    go_enter Tryd.func23, Tryd.ntmps23
    go_wp2
    go_ret
    exact ⟨v, rfl, hv0, hv1, rfl⟩
  · have i2 : decide (i < n) = false := decide_eq_false hlt
    have u1 : IntKind.i64.wrap (i * 7) = i * 7 := IntWalk.i64_in _ (by omega)
    have u2 : IntKind.i64.wrap (i * 7 + n) = i * 7 + n := IntWalk.i64_in _ (by omega)
    clear hB
    go_enter Tryd.func23, Tryd.ntmps23
    go_wp2
    go_ret
    exact ⟨(i * 7 + n) % 256, by go_num, by omega, by omega, rfl⟩
end Go.Proofs.YtfpokpgkkjibfaaDoor
