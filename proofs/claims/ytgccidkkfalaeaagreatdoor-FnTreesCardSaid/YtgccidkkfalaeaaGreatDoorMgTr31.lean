/- ParseInt: the reference's l1Read and the program's ParseInt give the number that a text is. -/
import Derived.Test.YtgccidkkfalaeaaGreatDoorMgTr19
import Derived.Test.YtgccidkkfalaeaaGreatDoorMgTr3
import Derived.Test.YtgccidkkfalaeaaGreatDoorMgTr12
import Derived.Test.YtgccidkkfalaeaaGreatDoorMgTr28
namespace Go.Proofs.YtgccidkkfalaeaaGreatDoor
open Go.ChangeShapes Go.WideShapes Go.ChangeAt Go.RowKit
open Go.ChangeMaps (open_string shut_string)

def rdO : Option Int → Value
  | some n => .tuple #[.int .i64 n, .bool true]
  | none => .tuple #[.int .i64 0, .bool false]
noncomputable def rdV (s : ByteArray) : Value := rdO (rdL s.data.toList)
/-- One step of reading digits. -/
theorem rd_step (t : ByteArray) (k v : Nat) (hk : k < t.size) (h : Lib.decFrom 0 (t.data.toList.take k) = some v) (h0 : 48 ≤ t[k].toNat) (h1 : t[k].toNat ≤ 57) :
    Lib.decFrom 0 (t.data.toList.take (k + 1)) = some (v * 10 + (t[k].toNat - 48)) :=
  Lib.decFrom_take _ k 0 v t[k] _ h (Lib.data_getElem? t k hk) (by unfold Lib.digitVal; rw [if_pos ⟨h0, h1⟩])
theorem rd_bad (t : ByteArray) (k : Nat) (hk : k < t.size) (h : ¬ (48 ≤ t[k].toNat ∧ t[k].toNat ≤ 57)) : Lib.decFrom 0 t.data.toList = none := by
  cases hd : Lib.decFrom 0 t.data.toList with
  | none => rfl
  | some n =>
    obtain ⟨d, hb⟩ := Lib.digit_of_decFrom _ _ _ hd k t[k] (Lib.data_getElem? t k hk)
    have := Lib.digitVal_eq hb
    exact absurd ⟨this.1, this.2.1⟩ h

/-- What l1Read does with the digits t of s (neg: a sign stands ahead of them), as plain facts. -/
structure RdFacts (s t : ByteArray) (sg : Int) : Prop where
  bad : Lib.decFrom 0 t.data.toList = none → rdV s = rdO none
  good : ∀ v : Nat, Lib.decFrom 0 t.data.toList = some v → 1 ≤ t.size → t.size ≤ 6 → rdV s = if itoaB (sg * v) = s then rdO (some (sg * v)) else rdO none
  long : ¬ (1 ≤ t.size ∧ t.size ≤ 6) → rdV s = rdO none
theorem itoaB_eq {n : Int} {s : ByteArray} : itoaB n = s ↔ Lib.itoa n = s.data.toList := by
  constructor
  · rintro rfl; simp [itoaB]
  · intro h; exact ba_ext (by simpa [itoaB] using h)
theorem rd_facts_neg (s t : ByteArray) (hs : s.data.toList = 45 :: t.data.toList) : RdFacts s t (-1) := by
  have hall : ∀ m, isNum s.data.toList m → ∃ u : Nat, m = -(u : Int) ∧ Lib.decFrom 0 t.data.toList = some u ∧ 1 ≤ t.size ∧ t.size ≤ 6 := by
    intro m hm
    rw [hs] at hm
    have := rd_neg hm
    simpa using this
  refine ⟨fun h => ?_, fun v h h1 h2 => ?_, fun h => ?_⟩
  · unfold rdV; rw [rdL_none fun m hm => by obtain ⟨u, _, e, _⟩ := hall m hm; rw [h] at e; cases e]
  · have hv := decFrom_bd h (by simpa using h2)
    by_cases e : itoaB (-1 * (v : Int)) = s
    · rw [if_pos e]; unfold rdV; rw [rdL_some ⟨by omega, by omega, itoaB_eq.1 e⟩]
    · rw [if_neg e]; unfold rdV
      rw [rdL_none fun m hm => by
        obtain ⟨u, rfl, e', _⟩ := hall m hm
        rw [h] at e'; cases e'
        exact e (itoaB_eq.2 (by rw [show -1 * (v : Int) = -(v : Int) by omega]; exact hm.2.2))]
  · unfold rdV; rw [rdL_none fun m hm => by obtain ⟨u, _, _, h1, h2⟩ := hall m hm; exact h ⟨h1, h2⟩]
theorem rd_facts_pos (s : ByteArray) (hs : ¬ (1 < s.size ∧ s.data.toList[0]? = some 45)) : RdFacts s s 1 := by
  have hall : ∀ m, isNum s.data.toList m → ∃ u : Nat, m = (u : Int) ∧ Lib.decFrom 0 s.data.toList = some u ∧ 1 ≤ s.size ∧ s.size ≤ 6 := by
    intro m hm
    have := rd_pos (by simpa using hs) hm
    simpa using this
  refine ⟨fun h => ?_, fun v h h1 h2 => ?_, fun h => ?_⟩
  · unfold rdV; rw [rdL_none fun m hm => by obtain ⟨u, _, e, _⟩ := hall m hm; rw [h] at e; cases e]
  · have hv := decFrom_bd h (by simpa using h2)
    by_cases e : itoaB (1 * (v : Int)) = s
    · rw [if_pos e]; unfold rdV; rw [rdL_some ⟨by omega, by omega, itoaB_eq.1 e⟩]
    · rw [if_neg e]; unfold rdV
      rw [rdL_none fun m hm => by
        obtain ⟨u, rfl, e', _⟩ := hall m hm
        rw [h] at e'; cases e'
        exact e (itoaB_eq.2 (by rw [show 1 * (v : Int) = (v : Int) by omega]; exact hm.2.2))]
  · unfold rdV; rw [rdL_none fun m hm => by obtain ⟨u, _, _, h1, h2⟩ := hall m hm; exact h ⟨h1, h2⟩]
theorem num_any (n : Int) (h0 : -1000000 ≤ n) (h1 : n ≤ 1000000) (w : World) : Calls Tryz.prog 70 #[.int .i64 n] w fun e w' => e = .returned (.string (itoaB n)) ∧ ∃ k, w' = w.drewN k := l1Num_any n w h0 h1

set_option maxHeartbeats 1000000 in
set_option maxRecDepth 100000 in
theorem l1Read_neg (s t : ByteArray) (w : World) (hs : s.data.toList = 45 :: t.data.toList) (ht : 1 ≤ t.size) (hz : s.size ≤ 1048576) :
    Calls Tryz.prog 53 #[.string s] w fun e w' => e = .returned (rdV s) ∧ ∃ k, w' = w.drewN k := by
  have hF := rd_facts_neg s t hs
  have hsz : s.size = t.size + 1 := by have := congrArg List.length hs; simpa using this
  have h0 : s[0]'(by omega) = 45 := by
    have := Lib.data_getElem? s 0 (by omega)
    rw [hs] at this; simpa using this.symm
  have hsl : ∀ w, (Instr.slice 9 (.string s) (some (.int .i64 1)) none none).run Tryz.prog w = .ok (.string t) w := fun w => by
    have h := slice_from s 1 (by omega) w
    have e : mkB (s.data.toList.drop 1) = t := by rw [hs]; exact mkB_data t
    rw [e] at h; exact h
  have h45 : ((s[0]'(by omega)).toNat : Int) = 45 := by rw [h0]; rfl
  clear hs h0
  by_cases hlen : t.size ≤ 6
  case neg =>
    rw [hF.long (fun h => hlen h.2)]
    clear hF
    go_enter Tryz.func53, Tryz.ntmps53
    go_wp2_with (go_at_call 65; refine (l1In_no _ _ _ _ (by omega)).mono ?_; rintro e w' ⟨rfl, rfl⟩)
    go_ret2
    exact ⟨rfl, 0, rfl⟩
  go_enter Tryz.func53, Tryz.ntmps53
  go_wp2_with (go_at_call 65; refine (l1In_yes _ _ _ _ (by omega) (by omega)).mono ?_; rintro e w' ⟨rfl, rfl⟩)
  go_loop [5, 6] (fun n i => ∃ k v : Nat, k ≤ t.size ∧ i = .int .i64 (k : Int) ∧ n = .int .i64 (v : Int) ∧ v ≤ 999999 ∧ Hid (Lib.decFrom 0 (t.data.toList.take k) = some v)) (fun _ i => t.size - (intOf i).toNat)
  case atStart => exact ⟨0, 0, Nat.zero_le _, rfl, rfl, by omega, rfl⟩
  case round =>
    obtain ⟨k, v, hk, rfl, rfl, hv, hd⟩ := hrel
    by_cases hlt : k < t.size
    · have hb : t[k].toNat < 256 := t[k].toNat_lt
      by_cases hdg : 48 ≤ t[k].toNat ∧ t[k].toNat ≤ 57
      · have hn := Lib.hid (rd_step t k v hlt hd.out hdg.1 hdg.2)
        have hbd : v * 10 + (t[k].toNat - 48) ≤ 999999 := decFrom_bd hn.out (by simp; omega)
        obtain ⟨hd0, hd1⟩ := hdg
        clear hF hd
        go_wp2
        go_round
        case rel => exact ⟨k + 1, v * 10 + (t[k].toNat - 48), by omega, by go_num, by go_num, hbd, hn⟩
        case measure => simp [intOf]; omega
      · have hr := Lib.hid (hF.bad (rd_bad t k hlt hdg))
        clear hF hd
        by_cases hd0 : 48 ≤ t[k].toNat
        · have hd1 : ¬ t[k].toNat ≤ 57 := fun h => hdg ⟨hd0, h⟩
          clear hdg
          go_wp2
          go_ret2
          exact ⟨by rw [hr.out]; rfl, 0, rfl⟩
        · clear hdg
          go_wp2
          go_ret2
          exact ⟨by rw [hr.out]; rfl, 0, rfl⟩
    · have hkn : k = t.size := by omega
      have hd2 := hd.out
      rw [hkn, List.take_of_length_le (by simp)] at hd2
      have hr := hF.good v hd2 ht hlen
      have hcmp := bytes_eq (a := itoaB (-1 * (v : Int))) (b := s)
      have hN := Lib.hid (fun w => num_any (-1 * (v : Int)) (by omega) (by omega) w)
      have e1 : -1 * (v : Int) = -(v : Int) := by omega
      rw [e1] at hcmp hN hr
      clear hF hd hd2 e1
      by_cases e : itoaB (-(v : Int)) = s
      · rw [if_pos e] at hr
        rw [decide_eq_true e] at hcmp
        have HR := Lib.hid hr
        clear e hr
        generalize itoaB (-(v : Int)) = b at *
        go_wp2_with (go_at_call 70; refine (hN.out _).mono ?_; rintro e w' ⟨rfl, kk, rfl⟩)
        go_ret2
        exact ⟨by rw [HR.out]; rfl, kk, rfl⟩
      · rw [if_neg e] at hr
        rw [decide_eq_false e] at hcmp
        have HR := Lib.hid hr
        clear e hr
        generalize itoaB (-(v : Int)) = b at *
        go_wp2_with (go_at_call 70; refine (hN.out _).mono ?_; rintro e w' ⟨rfl, kk, rfl⟩)
        go_ret2
        exact ⟨by rw [HR.out]; rfl, kk, rfl⟩

set_option maxHeartbeats 1000000 in
set_option maxRecDepth 100000 in
theorem l1Read_none (s : ByteArray) (w : World) (hs : s.size = 0) :
    Calls Tryz.prog 53 #[.string s] w fun e w' => e = .returned (rdV s) ∧ ∃ k, w' = w.drewN k := by
  have hF := rd_facts_pos s (by omega)
  rw [hF.long (by omega)]
  clear hF
  go_enter Tryz.func53, Tryz.ntmps53
  go_wp2_with (go_at_call 65; refine (l1In_no _ _ _ _ (by omega)).mono ?_; rintro e w' ⟨rfl, rfl⟩)
  go_ret2
  exact ⟨rfl, 0, rfl⟩
set_option maxHeartbeats 1000000 in
set_option maxRecDepth 100000 in
theorem l1Read_one (s : ByteArray) (w : World) (hs : s.size = 1) :
    Calls Tryz.prog 53 #[.string s] w fun e w' => e = .returned (rdV s) ∧ ∃ k, w' = w.drewN k := by
  have hF := rd_facts_pos s (by omega)
  have ht : 1 ≤ s.size := by omega
  have hlen : s.size ≤ 6 := by omega
  have hnot : ¬ (1 < s.size) := by omega
  go_enter Tryz.func53, Tryz.ntmps53
  go_wp2_with (go_at_call 65; refine (l1In_yes _ _ _ _ (by omega) (by omega)).mono ?_; rintro e w' ⟨rfl, rfl⟩)
  go_loop [5, 6] (fun n i => ∃ k v : Nat, k ≤ s.size ∧ i = .int .i64 (k : Int) ∧ n = .int .i64 (v : Int) ∧ v ≤ 999999 ∧ Hid (Lib.decFrom 0 (s.data.toList.take k) = some v)) (fun _ i => s.size - (intOf i).toNat)
  case atStart => exact ⟨0, 0, Nat.zero_le _, rfl, rfl, by omega, rfl⟩
  case round =>
    obtain ⟨k, v, hk, rfl, rfl, hv, hd⟩ := hrel
    by_cases hlt : k < s.size
    · have hb : s[k].toNat < 256 := s[k].toNat_lt
      by_cases hdg : 48 ≤ s[k].toNat ∧ s[k].toNat ≤ 57
      · have hn := Lib.hid (rd_step s k v hlt hd.out hdg.1 hdg.2)
        have hbd : v * 10 + (s[k].toNat - 48) ≤ 999999 := decFrom_bd hn.out (by simp; omega)
        obtain ⟨hd0, hd1⟩ := hdg
        clear hF hd
        go_wp2
        go_round
        case rel => exact ⟨k + 1, v * 10 + (s[k].toNat - 48), by omega, by go_num, by go_num, hbd, hn⟩
        case measure => simp [intOf]; omega
      · have hr := Lib.hid (hF.bad (rd_bad s k hlt hdg))
        clear hF hd
        by_cases hd0 : 48 ≤ s[k].toNat
        · have hd1 : ¬ s[k].toNat ≤ 57 := fun h => hdg ⟨hd0, h⟩
          clear hdg
          go_wp2
          go_ret2
          exact ⟨by rw [hr.out]; rfl, 0, rfl⟩
        · clear hdg
          go_wp2
          go_ret2
          exact ⟨by rw [hr.out]; rfl, 0, rfl⟩
    · have hkn : k = s.size := by omega
      have hd2 := hd.out
      rw [hkn, List.take_of_length_le (by simp)] at hd2
      have hr := hF.good v hd2 ht hlen
      have hcmp := bytes_eq (a := itoaB (1 * (v : Int))) (b := s)
      have hN := Lib.hid (fun w => num_any (1 * (v : Int)) (by omega) (by omega) w)
      have e1 : 1 * (v : Int) = (v : Int) := by omega
      rw [e1] at hcmp hN hr
      clear hF hd hd2 e1
      by_cases e : itoaB (v : Int) = s
      · rw [if_pos e] at hr
        rw [decide_eq_true e] at hcmp
        have HR := Lib.hid hr
        clear e hr
        generalize itoaB (v : Int) = b at *
        go_wp2_with (go_at_call 70; refine (hN.out _).mono ?_; rintro e w' ⟨rfl, kk, rfl⟩)
        go_ret2
        exact ⟨by rw [HR.out]; rfl, kk, rfl⟩
      · rw [if_neg e] at hr
        rw [decide_eq_false e] at hcmp
        have HR := Lib.hid hr
        clear e hr
        generalize itoaB (v : Int) = b at *
        go_wp2_with (go_at_call 70; refine (hN.out _).mono ?_; rintro e w' ⟨rfl, kk, rfl⟩)
        go_ret2
        exact ⟨by rw [HR.out]; rfl, kk, rfl⟩

set_option maxHeartbeats 1000000 in
set_option maxRecDepth 100000 in
theorem l1Read_pos (s : ByteArray) (w : World) (hs : 1 < s.size) (h45 : (s[0]'(by omega)).toNat ≠ 45) (hz : s.size ≤ 1048576) :
    Calls Tryz.prog 53 #[.string s] w fun e w' => e = .returned (rdV s) ∧ ∃ k, w' = w.drewN k := by
  have hF := rd_facts_pos s (by
    rintro ⟨_, h⟩
    rw [Lib.data_getElem? s 0 (by omega)] at h
    injection h with h
    rw [h] at h45; exact h45 rfl)
  have ht : 1 ≤ s.size := by omega
  have h46 : ¬ ((s[0]'(by omega)).toNat : Int) = 45 := by omega
  by_cases hlen : s.size ≤ 6
  case neg =>
    rw [hF.long (fun h => hlen h.2)]
    clear hF
    go_enter Tryz.func53, Tryz.ntmps53
    go_wp2_with (go_at_call 65; refine (l1In_no _ _ _ _ (by omega)).mono ?_; rintro e w' ⟨rfl, rfl⟩)
    go_ret2
    exact ⟨rfl, 0, rfl⟩
  go_enter Tryz.func53, Tryz.ntmps53
  go_wp2_with (go_at_call 65; refine (l1In_yes _ _ _ _ (by omega) (by omega)).mono ?_; rintro e w' ⟨rfl, rfl⟩)
  go_loop [5, 6] (fun n i => ∃ k v : Nat, k ≤ s.size ∧ i = .int .i64 (k : Int) ∧ n = .int .i64 (v : Int) ∧ v ≤ 999999 ∧ Hid (Lib.decFrom 0 (s.data.toList.take k) = some v)) (fun _ i => s.size - (intOf i).toNat)
  case atStart => exact ⟨0, 0, Nat.zero_le _, rfl, rfl, by omega, rfl⟩
  case round =>
    obtain ⟨k, v, hk, rfl, rfl, hv, hd⟩ := hrel
    by_cases hlt : k < s.size
    · have hb : s[k].toNat < 256 := s[k].toNat_lt
      by_cases hdg : 48 ≤ s[k].toNat ∧ s[k].toNat ≤ 57
      · have hn := Lib.hid (rd_step s k v hlt hd.out hdg.1 hdg.2)
        have hbd : v * 10 + (s[k].toNat - 48) ≤ 999999 := decFrom_bd hn.out (by simp; omega)
        obtain ⟨hd0, hd1⟩ := hdg
        clear hF hd
        go_wp2
        go_round
        case rel => exact ⟨k + 1, v * 10 + (s[k].toNat - 48), by omega, by go_num, by go_num, hbd, hn⟩
        case measure => simp [intOf]; omega
      · have hr := Lib.hid (hF.bad (rd_bad s k hlt hdg))
        clear hF hd
        by_cases hd0 : 48 ≤ s[k].toNat
        · have hd1 : ¬ s[k].toNat ≤ 57 := fun h => hdg ⟨hd0, h⟩
          clear hdg
          go_wp2
          go_ret2
          exact ⟨by rw [hr.out]; rfl, 0, rfl⟩
        · clear hdg
          go_wp2
          go_ret2
          exact ⟨by rw [hr.out]; rfl, 0, rfl⟩
    · have hkn : k = s.size := by omega
      have hd2 := hd.out
      rw [hkn, List.take_of_length_le (by simp)] at hd2
      have hr := hF.good v hd2 ht hlen
      have hcmp := bytes_eq (a := itoaB (1 * (v : Int))) (b := s)
      have hN := Lib.hid (fun w => num_any (1 * (v : Int)) (by omega) (by omega) w)
      have e1 : 1 * (v : Int) = (v : Int) := by omega
      rw [e1] at hcmp hN hr
      clear hF hd hd2 e1
      by_cases e : itoaB (v : Int) = s
      · rw [if_pos e] at hr
        rw [decide_eq_true e] at hcmp
        have HR := Lib.hid hr
        clear e hr
        generalize itoaB (v : Int) = b at *
        go_wp2_with (go_at_call 70; refine (hN.out _).mono ?_; rintro e w' ⟨rfl, kk, rfl⟩)
        go_ret2
        exact ⟨by rw [HR.out]; rfl, kk, rfl⟩
      · rw [if_neg e] at hr
        rw [decide_eq_false e] at hcmp
        have HR := Lib.hid hr
        clear e hr
        generalize itoaB (v : Int) = b at *
        go_wp2_with (go_at_call 70; refine (hN.out _).mono ?_; rintro e w' ⟨rfl, kk, rfl⟩)
        go_ret2
        exact ⟨by rw [HR.out]; rfl, kk, rfl⟩

theorem l1Read_any (s : ByteArray) (w : World) (hz : s.size ≤ 1048576) :
    Calls Tryz.prog 53 #[.string s] w fun e w' => e = .returned (rdV s) ∧ ∃ k, w' = w.drewN k := by
  by_cases h0 : s.size = 0
  · exact l1Read_none s w h0
  by_cases h1 : s.size = 1
  · exact l1Read_one s w h1
  by_cases h45 : (s[0]'(by omega)).toNat = 45
  · have hd : s.data.toList = 45 :: (mkB (s.data.toList.drop 1)).data.toList := by
      have e : s[0]'(by omega) = 45 := UInt8.toNat_inj.1 h45
      rw [mkB_list]
      have := drop_cons s 0 (by omega)
      rw [List.drop_zero, e] at this
      exact this
    have hsz := congrArg List.length hd
    rw [List.length_cons, ← Lib.size_eq, ← Lib.size_eq] at hsz
    exact l1Read_neg s _ w hd (by omega) hz
  · exact l1Read_pos s w (by omega) h45 hz

/-- The variable that Atoi's error names holds nil or an error. -/
def SynC (w : World) : Prop := ∃ ev, w.cell? ⟨1, 0, none⟩ = some ev ∧ (ev = .nilIface ∨ ∃ te pe, ev = .iface te pe)
theorem SynC.below {w w' : World} (h : SynC w) (hb : Below w.heap.size w w') : SynC w' := by
  obtain ⟨ev, h, he⟩ := h
  exact ⟨ev, (hb.cell (World.block_lt_of_cell? w _ h)).trans h, he⟩
theorem atoi_some (s : ByteArray) (v : Int) (w : World) (hs : s.size ≤ 7) (h : Lib.atoi s.data.toList = some v) : Calls Tryz.prog 73 #[.string s] w fun e w' => e = .returned (.tuple #[.int .i64 v, .nilIface]) ∧ Below w.heap.size w w' := by
  refine (Tryz.strconv_Atoi_ok s (by omega) v (by rw [Lib.atoiAll_short _ (by rw [← Lib.size_eq]; omega), h]; rfl) w).mono ?_
  rintro e w' ⟨rfl, hw⟩
  refine ⟨rfl, ?_⟩
  rcases hw with rfl | ⟨t, rfl⟩
  · exact Below.refl _ _
  · exact Lib.bytesWorld_below _ _ _
theorem atoi_none (s : ByteArray) (w : World) (hs : s.size ≤ 7) (h : Lib.atoi s.data.toList = none) (hC : SynC w) : Calls Tryz.prog 73 #[.string s] w fun e w' => ∃ t N, e = .returned (.tuple #[.int .i64 0, .iface t (.pointer (some ⟨N, 0, none⟩))]) ∧ Below w.heap.size w w' := by
  obtain ⟨ev, hc, hev⟩ := hC
  refine (Tryz.strconv_Atoi_syntax s (by omega) (by rw [Lib.atoiAll_short _ (by rw [← Lib.size_eq]; omega), h]; rfl) ev w hc hev).mono ?_
  rintro e w' ⟨N, rfl, _, _, hb⟩
  exact ⟨_, N, rfl, hb⟩

set_option maxRecDepth 100000 in
theorem implParse_any (s : ByteArray) (w : World) (hz : s.size ≤ 1048576) (hT : TabE w) (hC : SynC w) :
    Calls Tryz.prog 51 #[.string s] w fun e w' => e = .returned (rdV s) ∧ Below w.heap.size w w' := by
  have hex : ∀ m, isNum s.data.toList m → Lib.atoi s.data.toList = some m ∧ s.size ≤ 7 := by
    intro m hm
    have h := isNum_atoi hm
    rw [← Lib.size_eq] at h
    exact ⟨h.1, h.2.2⟩
  by_cases hs : s.size ≤ 7
  case neg =>
    have HR : Hid (rdV s = rdO none) := by refine Lib.hid ?_; unfold rdV; rw [rdL_none fun m hm => hs (hex m hm).2]
    clear hex
    go_enter Tryz.func51, Tryz.ntmps51
    go_wp2
    go_ret2
    exact ⟨by rw [HR.out]; rfl, Below.refl _ _⟩
  cases ha : Lib.atoi s.data.toList with
  | none =>
    have HR : Hid (rdV s = rdO none) := by refine Lib.hid ?_; unfold rdV; rw [rdL_none fun m hm => by have := (hex m hm).1; rw [ha] at this; cases this]
    have hA := Lib.hid (fun w hC => atoi_none s w hs ha hC)
    clear hex ha
    go_enter Tryz.func51, Tryz.ntmps51
    go_wp2_with (go_at_call 73; refine (hA.out _ hC).mono ?_; rintro e w' ⟨t, N, rfl, hb⟩)
    go_ret2
    exact ⟨by rw [HR.out]; rfl, hb⟩
  | some v =>
    have hA := Lib.hid (fun w => atoi_some s v w hs ha)
    have hvb : -9223372036854775808 ≤ v ∧ v ≤ 9223372036854775807 := Lib.atoiAll_bounds (l := s.data.toList) (by rw [Lib.atoiAll_short _ (by rw [← Lib.size_eq]; omega), ha]; rfl)
    by_cases hin : -999999 ≤ v ∧ v ≤ 999999
    · have hI : Hid (∀ w, TabE w → Calls Tryz.prog 68 #[.int .i64 v] w fun e w' => e = .returned (.string (itoaB v)) ∧ Below w.heap.size w w') := Lib.hid (fun w hT => itoa_any v w (by omega) (by omega) hT)
      have hcmp := bytes_eq (a := itoaB v) (b := s)
      by_cases e : itoaB v = s
      · have HR : Hid (rdV s = rdO (some v)) := by refine Lib.hid ?_; unfold rdV; rw [rdL_some ⟨hin.1, hin.2, itoaB_eq.1 e⟩]
        rw [decide_eq_true e] at hcmp
        clear e hex ha
        generalize itoaB v = b at *
        go_enter Tryz.func51, Tryz.ntmps51
        go_wp2_with (first | (go_at_call 73; refine (hA.out _).mono ?_; rintro e w1 ⟨rfl, hb⟩) | (go_at_call 39; refine (within_yes _ _ _ _ (by omega) (by omega)).mono ?_; rintro e w' ⟨rfl, rfl⟩) | (go_at_call 68; refine (hI.out _ (hT.below hb)).mono ?_; rintro e w2 ⟨rfl, hb2⟩))
        go_ret2
        exact ⟨by rw [HR.out]; rfl, keep_below hb2 hb⟩
      · have HR : Hid (rdV s = rdO none) := by
          refine Lib.hid ?_
          unfold rdV
          rw [rdL_none fun m hm => by
            have := (hex m hm).1
            rw [ha] at this; cases this
            exact e (itoaB_eq.2 hm.2.2)]
        rw [decide_eq_false e] at hcmp
        clear e hex ha
        generalize itoaB v = b at *
        go_enter Tryz.func51, Tryz.ntmps51
        go_wp2_with (first | (go_at_call 73; refine (hA.out _).mono ?_; rintro e w1 ⟨rfl, hb⟩) | (go_at_call 39; refine (within_yes _ _ _ _ (by omega) (by omega)).mono ?_; rintro e w' ⟨rfl, rfl⟩) | (go_at_call 68; refine (hI.out _ (hT.below hb)).mono ?_; rintro e w2 ⟨rfl, hb2⟩))
        go_ret2
        exact ⟨by rw [HR.out]; rfl, keep_below hb2 hb⟩
    · have HR : Hid (rdV s = rdO none) := by
        refine Lib.hid ?_
        unfold rdV
        rw [rdL_none fun m hm => by
          have := (hex m hm).1
          rw [ha] at this; cases this
          exact hin ⟨hm.1, hm.2.1⟩]
      clear hex ha
      go_enter Tryz.func51, Tryz.ntmps51
      go_wp2_with (first | (go_at_call 73; refine (hA.out _).mono ?_; rintro e w1 ⟨rfl, hb⟩) | (go_at_call 39; refine (within_no _ _ _ _ (by omega)).mono ?_; rintro e w' ⟨rfl, rfl⟩))
      go_ret2
      exact ⟨by rw [HR.out]; rfl, hb⟩
end Go.Proofs.YtgccidkkfalaeaaGreatDoor
/- Plain laws: a sealed text is read back, and no text with one byte changed is a sealed one. -/
namespace Go.Proofs.YtgccidkkfalaeaaGreatDoor

theorem decDigits_byte (u : Nat) {b : UInt8} (h : b ∈ Lib.decDigits u) : 48 ≤ b.toNat ∧ b.toNat ≤ 57 := by
  obtain ⟨j, hj⟩ := List.getElem?_of_mem h
  obtain ⟨d, hb⟩ := Lib.digit_of_decFrom _ _ _ (decFrom_digits u) j b hj
  unfold Lib.digitVal at hb
  split at hb
  · assumption
  · cases hb
theorem itoa_no (n : Int) (hn : 0 ≤ n) {c : UInt8} (hc : c.toNat < 48) : c ∉ Lib.itoa n := by
  obtain ⟨u, rfl⟩ := Int.eq_ofNat_of_zero_le hn
  rw [Lib.itoa_nonneg]
  intro h
  have := (decDigits_byte u h).1
  omega
theorem itoa_inj {m n : Int} (hm : 0 ≤ m) (hn : 0 ≤ n) (h : Lib.itoa m = Lib.itoa n) : m = n := by
  obtain ⟨u, rfl⟩ := Int.eq_ofNat_of_zero_le hm
  obtain ⟨v, rfl⟩ := Int.eq_ofNat_of_zero_le hn
  rw [Lib.itoa_nonneg, Lib.itoa_nonneg] at h
  have h1 := decFrom_digits u
  rw [h, decFrom_digits v] at h1
  cases h1; rfl
theorem csum_tail (r : List UInt8) : ∀ a b : Int, 0 ≤ a → a < 999979 → 0 ≤ b → b < 999979 → r.foldl (fun h c => (41 * h + (c.toNat : Int) + 1) % 999979) a = r.foldl (fun h c => (41 * h + (c.toNat : Int) + 1) % 999979) b → a = b := by
  induction r with
  | nil => intro a b _ _ _ _ h; exact h
  | cons c r ih =>
    intro a b ha0 ha1 hb0 hb1 h
    rw [List.foldl_cons, List.foldl_cons] at h
    have := ih ((41 * a + (c.toNat : Int) + 1) % 999979) ((41 * b + (c.toNat : Int) + 1) % 999979) (by omega) (by omega) (by omega) (by omega) h
    omega
theorem csum_one (p r : List UInt8) (x y : UInt8) (h : csum (p ++ x :: r) = csum (p ++ y :: r)) : x = y := by
  unfold csum at h
  rw [List.foldl_append, List.foldl_append, List.foldl_cons, List.foldl_cons] at h
  have hx := x.toNat_lt
  have hy := y.toNat_lt
  have := csum_tail r _ _ (by omega) (by omega) (by omega) (by omega) h
  exact UInt8.toNat_inj.1 (by omega)
def sealL (l : List UInt8) : List UInt8 := l ++ 35 :: Lib.itoa (csum l)
theorem sealB_list (s : ByteArray) : (sealB s).data.toList = sealL s.data.toList := by
  unfold sealB sealL itoaB
  simp
theorem seal_changed {x P R : List UInt8} {a v : UInt8} (h35 : (35 : UInt8) ∉ x) (hy : sealL x = P ++ a :: R) (hv : v ≠ a) : sealL (headL 35 (P ++ v :: R)) ≠ P ++ v :: R := by
  intro e
  have hc := csum_bd x
  have hT : (35 : UInt8) ∉ Lib.itoa (csum x) := itoa_no _ hc.1 (by decide)
  have hc' := csum_bd (headL 35 (P ++ v :: R))
  have hT' : (35 : UInt8) ∉ Lib.itoa (csum (headL 35 (P ++ v :: R))) := itoa_no _ hc'.1 (by decide)
  have hmid : ∀ T : List UInt8, (35 : UInt8) ∉ T → v ≠ 35 → sealL (headL 35 (x ++ v :: T)) ≠ x ++ v :: T := by
    intro T hT hv e
    have h1 : (35 : UInt8) ∈ x ++ v :: T := by rw [← e]; unfold sealL; simp
    rw [List.mem_append, List.mem_cons] at h1
    rcases h1 with h1 | h1 | h1
    · exact h35 h1
    · exact hv h1.symm
    · exact hT h1
  unfold sealL at hy
  rcases List.append_eq_append_iff.1 hy with ⟨q, h1, h2⟩ | ⟨q, h1, h2⟩
  · -- P = x ++ q, 35 :: T = q ++ a :: R
    cases q with
    | nil =>
      simp only [List.append_nil, List.nil_append] at h1 h2
      injection h2 with h2 h3
      subst h1 h2 h3
      exact hmid _ hT hv e
    | cons b q =>
      rw [List.cons_append] at h2
      injection h2 with h2 h3
      subst h1 h2
      rw [List.append_assoc, List.cons_append, head_app h35] at e
      unfold sealL at e
      rw [h3] at e
      have e1 := List.append_cancel_left e
      injection e1 with _ e1
      have e2 := List.append_cancel_left e1
      injection e2 with e2 _
      exact hv e2.symm
  · -- x = P ++ q, a :: R = q ++ 35 :: T
    cases q with
    | nil =>
      simp only [List.append_nil, List.nil_append] at h1 h2
      injection h2 with h2 h3
      subst h1 h2 h3
      exact hmid _ hT hv e
    | cons b q =>
      rw [List.cons_append] at h2
      injection h2 with h2 h3
      subst h2 h3
      have hP : (35 : UInt8) ∉ P := fun h => h35 (by rw [h1]; simp [h])
      have hq : (35 : UInt8) ∉ q := fun h => h35 (by rw [h1]; simp [h])
      by_cases hv5 : v = 35
      · subst hv5
        rw [head_app hP] at e hT'
        unfold sealL at e
        have e1 := List.append_cancel_left e
        injection e1 with _ e1
        exact hT' (by rw [e1]; simp)
      · have hd : headL 35 (P ++ v :: (q ++ 35 :: Lib.itoa (csum x))) = P ++ v :: q := by
          have := head_app (c := 35) (l := P ++ v :: q) (by simp [hP, hq, Ne.symm hv5]) (Lib.itoa (csum x))
          simpa using this
        rw [hd] at e hc'
        unfold sealL at e
        have e' : (P ++ v :: q) ++ 35 :: Lib.itoa (csum (P ++ v :: q)) = (P ++ v :: q) ++ 35 :: Lib.itoa (csum x) := by rw [e]; simp
        have e1 := List.append_cancel_left e'
        injection e1 with _ e1
        have e2 := itoa_inj hc'.1 hc.1 e1
        rw [h1] at e2
        exact hv (csum_one P q v a e2)
theorem vf_seal {x : ByteArray} (h : apOk x) : vfOk (sealB x) ∧ headB (sealB x) = x := by
  have e : headB (sealB x) = x := by
    unfold headB
    rw [sealB_list]
    unfold sealL
    rw [head_app h.2.1]
    exact ba_ext (by rw [mkB_list])
  exact ⟨⟨h.2.2, by rw [e]⟩, e⟩
theorem vf_changed {x s : ByteArray} (h : apOk x) {P R : List UInt8} {a v : UInt8} (e : (sealB x).data.toList = P ++ a :: R) (hv : v ≠ a) (e' : s.data.toList = P ++ v :: R) : ¬ vfOk s := by
  rintro ⟨_, hs⟩
  rw [sealB_list] at e
  refine seal_changed h.2.1 e hv ?_
  have h2 : (sealB (headB s)).data.toList = s.data.toList := by rw [hs]
  rw [sealB_list, e'] at h2
  unfold headB at h2
  rw [mkB_list, e'] at h2
  exact h2
theorem rd_fmt {n : Int} (h0 : -999999 ≤ n) (h1 : n ≤ 999999) : rdL (Lib.itoa n) = some n := rdL_some (itoa_isNum h0 h1)
/-- A byte and the same with some bits turned differ. -/
theorem xor_ne : ∀ a m : UInt8, m ≠ 0 → a ^^^ m ≠ a := by
  intro a m hm e
  apply hm
  have : a ^^^ (a ^^^ m) = a ^^^ a := by rw [e]
  rw [← UInt8.xor_assoc, UInt8.xor_self, UInt8.zero_xor] at this
  exact this
end Go.Proofs.YtgccidkkfalaeaaGreatDoor
