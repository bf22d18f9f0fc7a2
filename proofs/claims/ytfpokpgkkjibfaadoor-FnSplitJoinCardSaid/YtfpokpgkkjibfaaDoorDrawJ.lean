/- Contract: the reference's draw of a list of texts and a sign. -/
import Derived.Test.YtfpokpgkkjibfaaDoorDrawT
namespace Go.Proofs.YtfpokpgkkjibfaaDoor
open Go.ChangeShapes Go.WideShapes Go.ChangeAt Go.RowKit
open Go.ChangeMaps (open_string shut_string)

def sepJ : List ByteArray := [⟨#[44]⟩, ⟨#[59]⟩, ⟨#[59]⟩, ⟨#[]⟩, ⟨#[97, 98]⟩]
theorem sepJ_small : ∀ b ∈ sepJ, b.size ≤ 2 := by decide
theorem small_app {L : List ByteArray} {b : ByteArray} (h : ∀ b ∈ L, b.size ≤ 5000) (hb : b.size ≤ 5000) : ∀ c ∈ L ++ [b], c.size ≤ 5000 := by
  intro c hc
  rcases List.mem_append.1 hc with hc | hc
  · exact h c hc
  · rw [List.mem_singleton.1 hc]; exact hb
theorem own_formSd {w : World} {B : Nat} {v : Value} {L : List ByteArray} {n : Nat} (h : w.ownsRow B 9 1 v n (strs L)) : ∃ A c, v = .slice A L.length c ∧ L.length ≤ c ∧ OwnSS w B A L := by
  have hl : L.length = n := by have := h.1; rw [strs_len] at this; omega
  subst hl
  rcases h.2 with ⟨rfl, h0⟩ | ⟨g, cap, cur, rfl, hg, hh, h1, h2, h3, h4⟩
  · exact ⟨none, 0, by rw [h0], by omega, .inl ⟨rfl, List.eq_nil_of_length_eq_zero h0⟩⟩
  · exact ⟨some ⟨g, 0, none⟩, cap, rfl, h1, .inr ⟨g, rfl, hg, cur, hh, cur.toList.drop (L.length * 1), by rw [← h4, List.take_append_drop]⟩⟩
theorem own_neD {w : World} {B size n g : Nat} {e : TypeId} {v : Value} {xs : List Value} (h : w.ownsRow B e size v n xs) (hg : g < B) : v.ownBlock ≠ some g := fun e => by
  have := (h.lt g e).1; omega
theorem below_w1 {w W : World} (h : Below w.heap.size w W) (o : Obj) : Below w.heap.size w (W.alloc o) := h.alloc h.size o
set_option maxHeartbeats 4000000 in
set_option maxRecDepth 100000 in
theorem drawJoin_any (C : Option Addr) (n cc : Nat) (w : World) (hB : Byt w C n) (hn : n ≤ 1000000) :
    Calls Tryd.prog 36 #[.slice C n cc] w fun e w' => ∃ A cp L b, e = .returned (.tuple #[.slice A L.length cp, .string b]) ∧ L.length ≤ 5 ∧ L.length ≤ cp ∧ (∀ b ∈ L, b.size ≤ 5000) ∧ b.size ≤ 2 ∧ OwnSS w' w.heap.size A L ∧ Below w.heap.size w w' := by
  obtain ⟨i0, hi, hz0, hz1, hz2⟩ := infoS_parts
  have hne : ∀ b o, 0 < n → C = some ⟨b, o, none⟩ → b ≠ w.heap.size := fun b o h0 e => by have := byt_ltS hB h0 e; omega
  have HA := Lib.hid (fun W m (h : CurB W w.heap.size C n cc m) (hb : Below w.heap.size w W) (hm : m ≤ 1000) => any1_draw W h (hB.below hb) hne (by omega) hn)
  have HF := Lib.hid (fun A c L W m (h : CurB W w.heap.size C n cc m) (hb : Below w.heap.size w W) (hm : m ≤ 1000) => of_draw A c L W h (hB.below hb) hne (by omega) hn)
  have HP := Lib.hid (fun q W m (h : CurB W w.heap.size C n cc m) (hb : Below w.heap.size w W) (hm : m ≤ 1000) => pick_draw q W h (hB.below hb) hne (by omega) hn)
  have HO := Lib.hid (fun q W m (h : CurB W w.heap.size C n cc m) (hb : Below w.heap.size w W) (hm : m ≤ 1000) => one_draw q W h (hB.below hb) hne (by omega) hn)
  have hc0 := cur_newS w C n cc
  have hb0 : Below (w.alloc (.cells #[.slice C n cc, .int .i64 0, .int .u64 0] 60)).heap.size (w.alloc (.cells #[.slice C n cc, .int .i64 0, .int .u64 0] 60)) ((w.alloc (.cells #[.slice C n cc, .int .i64 0, .int .u64 0] 60)).alloc (.cells #[] 9)) := (Below.refl _ _).alloc (Nat.le_refl _) _
  have hc := hc0.below hb0
  have hw : Below w.heap.size w ((w.alloc (.cells #[.slice C n cc, .int .i64 0, .int .u64 0] 60)).alloc (.cells #[] 9)) := by (repeat (first | with_reducible exact Below.refl _ _ | with_reducible assumption | with_reducible refine Below.alloc' ?_ ?_ _ | with_reducible refine Below.setCell' ?_ ?_ _ | with_reducible refine Below.drewN' ?_ _ | with_reducible refine Below.drew ?_ | with_reducible refine Below.transA ?_ (by assumption) ?_ | omega | (focus (simp; done)) | (focus (simp; omega))))
  have hown := own_emptyS (w.alloc (.cells #[.slice C n cc, .int .i64 0, .int .u64 0] 60)) (w.heap.size + 1) (w.heap.size + 1) (by simp) (Nat.le_refl _)
  clear hne hB hn hc0 hb0
  have hp := HP.out 4 _ _ hc hw (by omega) (by omega)
  go_enter Tryd.func36, Tryd.ntmps36
  go_wp2_with fail
  refine hp.mono ?_
  rintro e1 w1 ⟨r, rfl, h0, h1, hc1, hk1⟩
  obtain ⟨r, rfl⟩ := Int.eq_ofNat_of_zero_le h0
  replace hown := own_kept hown hk1 (Nat.lt_succ_self _)
  replace hw := hk1.below hw (by omega) (by omega)
  clear hc hk1 hp
  go_wp2
  go_loopw [5, 7] (fun v i wr => ∃ (k : Nat) (L : List ByteArray), k ≤ r ∧ i = .int .i64 (k : Int) ∧ wr.ownsRow (w.heap.size + 1) 9 1 v L.length (strs L) ∧ L.length = k ∧ (∀ b ∈ L, b.size ≤ 5000) ∧ CurB wr w.heap.size C n cc (2 * k + 2) ∧ Below w.heap.size w wr) (fun _ i _ => r - (intOf i).toNat)
  case atStart => exact ⟨0, [], Nat.zero_le _, rfl, hown, rfl, by simp, hc1, hw⟩
  case round =>
    clear hc1 hw hown
    obtain ⟨k, L, hk, rfl, hown, hL, hLs, hc, hw⟩ := hrel
    by_cases hlt : k < r
    · have ha := HA.out _ _ hc hw (by omega)
      have i1 : (k : Int) < r := by omega
      go_wp2_with fail
      refine ha.mono ?_
      rintro e1 w2 ⟨b, hb, rfl, hc2, hk2⟩
      replace hown := own_kept hown hk2 (Nat.lt_succ_self _)
      replace hw := hk2.below hw (by omega) (by omega)
      clear hc hk2 ha
      go_wp2_with (at_builtin; refine wpList_append_own_at _ rfl _ _ 41 rfl (w.heap.size + 1) 9 i0 (.string ByteArray.empty) 1 16 Tryd.underlying41 hi hz0 hz1 hz2 rfl (by decide) _ _ _ rfl (hown.alloc _) ⟨w2.heap.size, 0, none⟩ 1 1 [.string b] rfl rfl (cell_one_new _ _ _) (by simp [Value.oneCell']) (by unfold maxLen; omega) (by omega) (by simp; have := hc2.lt; omega) ?_; intro v' w3 hown3 hgrow _ _)
      have hc3 := (hc2.below ((Below.refl _ _).alloc (Nat.le_refl _) _)).grown hgrow (own_neD hown (Nat.lt_succ_self _))
      have hw3 : Below w.heap.size w w3 := Below.grown (below_w1 hw _) hgrow (below_w1 hw _).size (fun g hg => by have := (hown.lt g hg).1; omega)
      have hown4 : w3.ownsRow (w.heap.size + 1) 9 1 v' (L ++ [b]).length (strs (L ++ [b])) := by rw [strs_app, List.length_append]; exact hown3
      clear hown hgrow hown3 hc2 hw
      go_wp2
      go_roundw
      case rel => exact ⟨k + 1, L ++ [b], by omega, by go_num, hown4, by rw [List.length_append, hL]; rfl, small_app hLs (by omega), hc3, hw3⟩
      case measure => simp [intOf]; omega
    · have hp := HO.out 20 _ _ hc hw (by omega) (by omega)
      have hk5 : L.length ≤ 4 := by omega
      clear hk
      go_wp2_with fail
      refine hp.mono ?_
      rintro e1 w2 ⟨z, rfl, hc2, hk2⟩
      replace hown := own_kept hown hk2 (Nat.lt_succ_self _)
      replace hw := hk2.below hw (by omega) (by omega)
      clear hc hk2 hp
      cases z with
      | false =>
        obtain ⟨A', c', rfl, hcc, hO⟩ := own_formSd hown
        have hbA : Below w2.heap.size w2 (w2.alloc (.cells (strs sepJ).toArray 9)) := (Below.refl _ _).alloc (Nat.le_refl _) _
        have hf := HF.out (some ⟨w2.heap.size, 0, none⟩) 5 sepJ _ _ (hc2.below hbA) (keep_below hbA hw) (by omega) (list_StrS w2 sepJ) (fun b o e => by injection e with e; injection e with e; have := hc2.lt; omega) ⟨by decide, by decide⟩
        replace hw := keep_below hbA hw
        replace hO := hO.below hbA
        clear hc2 hbA hown
        go_wp2_with fail
        refine hf.mono ?_
        rintro e1 w3 ⟨b, hb, rfl, _, hk3⟩
        have hO3 : OwnSS w3 (w.heap.size + 1) A' L := by
          rcases hO with ⟨rfl, rfl⟩ | ⟨g, rfl, hg, hr⟩
          · exact .inl ⟨rfl, rfl⟩
          · exact .inr ⟨g, rfl, hg, hr.of_block (hk3.block g hr.lt (by omega) (by omega))⟩
        replace hw := hk3.below hw (by omega) (by omega)
        clear hO hk3 hf
        go_wp2
        go_ret2
        exact ⟨A', c', L, b, by rw [hL]; rfl, by omega, hcc, hLs, sepJ_small b hb, hO3.mono (by omega), hw⟩
      | true =>
        have hp := HP.out 20 _ _ hc2 hw (by omega) (by omega)
        go_wp2_with fail
        refine hp.mono ?_
        rintro e1 w3 ⟨q, rfl, q0, q1, hc3, hk3⟩
        obtain ⟨q, rfl⟩ := Int.eq_ofNat_of_zero_le q0
        replace hown := own_kept hown hk3 (Nat.lt_succ_self _)
        replace hw := hk3.below hw (by omega) (by omega)
        have u1 : IntKind.i64.wrap (3990 + (q : Int)) = ((3990 + q : Nat) : Int) := by rw [IntWalk.i64_in _ (by omega)]; omega
        have hsz : (mkB (List.replicate (3990 + q) 0)).size ≤ 5000 := by rw [mkB_size, List.length_replicate]; omega
        have hmk := Lib.hid (fun w => run_makeBs (3990 + q) (by omega) w)
        have hcv := Lib.hid (run_zerosB (3990 + q) w3)
        have hbN : Below w3.heap.size w3 (w3.alloc (.cells (madeCells #[.int .u8 0] (3990 + q)) 5)) := (Below.refl _ _).alloc (Nat.le_refl _) _
        replace hc3 := hc3.below hbN
        replace hown := own_below hown hbN
        replace hw := keep_below hbN hw
        clear hc2 hk3 hp hbN
        generalize 3990 + q = m at *
        generalize mkB (List.replicate m 0) = x at *
        have hmk2 := hmk.out w3
        have hcv2 := hcv.out
        clear hmk hcv
        have hn1 := cell_one_new (w3.alloc (.cells (madeCells #[.int .u8 0] m) 5)) (Value.string x) 9
        have hs1 : (w3.alloc (.cells (madeCells #[.int .u8 0] m) 5)).heap.size = w3.heap.size + 1 := by simp
        rw [hs1] at hn1
        clear hs1
        go_wp2_with (at_builtin; refine wpList_append_own_at _ rfl _ _ 41 rfl (w.heap.size + 1) 9 i0 (.string ByteArray.empty) 1 16 Tryd.underlying41 hi hz0 hz1 hz2 rfl (by decide) _ _ _ rfl (hown.alloc _) ⟨w3.heap.size + 1, 0, none⟩ 1 1 [.string x] rfl rfl hn1 (by simp [Value.oneCell']) (by unfold maxLen; omega) (by omega) (by simp; have := hc3.lt; simp at this; omega) ?_; intro v' w4 hown4 hgrow _ _)
        have hc4 := (hc3.below ((Below.refl _ _).alloc (Nat.le_refl _) _)).grown hgrow (own_neD hown (Nat.lt_succ_self _))
        have hw4 : Below w.heap.size w w4 := Below.grown (below_w1 hw _) hgrow (below_w1 hw _).size (fun g hg => by have := (hown.lt g hg).1; omega)
        have hown5 : w4.ownsRow (w.heap.size + 1) 9 1 v' (L ++ [x]).length (strs (L ++ [x])) := by rw [strs_app, List.length_append]; exact hown4
        replace hLs := small_app hLs hsz
        have hk6 : (L ++ [x]).length ≤ 5 := by rw [List.length_append]; simp; omega
        generalize L ++ [x] = M at *
        clear hown hgrow hown4 hc3 hw hn1 hcv2 hmk2
        obtain ⟨A', c', rfl, hcc, hO⟩ := own_formSd hown5
        have hbA : Below w4.heap.size w4 (w4.alloc (.cells (strs sepJ).toArray 9)) := (Below.refl _ _).alloc (Nat.le_refl _) _
        have hf := HF.out (some ⟨w4.heap.size, 0, none⟩) 5 sepJ _ _ (hc4.below hbA) (keep_below hbA hw4) (by omega) (list_StrS w4 sepJ) (fun b o e => by injection e with e; injection e with e; have := hc4.lt; omega) ⟨by decide, by decide⟩
        have hw5 := keep_below hbA hw4
        replace hO := hO.below hbA
        clear hc4 hbA hown5 hw4
        go_wp2_with fail
        refine hf.mono ?_
        rintro e1 w5 ⟨b, hb, rfl, _, hk5⟩
        have hO3 : OwnSS w5 (w.heap.size + 1) A' M := by
          rcases hO with ⟨rfl, rfl⟩ | ⟨g, rfl, hg, hr⟩
          · exact .inl ⟨rfl, rfl⟩
          · exact .inr ⟨g, rfl, hg, hr.of_block (hk5.block g hr.lt (by omega) (by omega))⟩
        have hw6 := hk5.below hw5 (by omega) (by omega)
        clear hO hk5 hf
        go_wp2
        go_ret2
        exact ⟨A', c', M, b, rfl, hk6, hcc, hLs, sepJ_small b hb, hO3.mono (by omega), hw6⟩
end Go.Proofs.YtfpokpgkkjibfaaDoor
