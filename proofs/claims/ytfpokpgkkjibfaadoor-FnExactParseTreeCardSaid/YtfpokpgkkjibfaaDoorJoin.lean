/- JoinStrings: what the reference's and the program's return. -/
import Derived.Test.YtfpokpgkkjibfaaDoorStrL
import Derived.Test.YtfpokpgkkjibfaaDoorSeal
import Derived.Lib.JoinLaws
namespace Go.Proofs.YtfpokpgkkjibfaaDoor
open Go.ChangeShapes Go.WideShapes Go.ChangeAt Go.RowKit
open Go.ChangeMaps (open_string shut_string)

/-- Each text with the sign ahead of it. -/
def jnF (c : UInt8) (L : List ByteArray) : List UInt8 := (L.map fun b => c :: b.data.toList).flatten
theorem jnF_snoc (c : UInt8) (L : List ByteArray) (b : ByteArray) : jnF c (L ++ [b]) = jnF c L ++ c :: b.data.toList := by simp [jnF]
theorem jnF_app (c : UInt8) (L M : List ByteArray) : jnF c (L ++ M) = jnF c L ++ jnF c M := by simp [jnF]
theorem jnF_pos (c : UInt8) {L : List ByteArray} (h : L ≠ []) : 1 ≤ (jnF c L).length := by
  cases L with
  | nil => exact absurd rfl h
  | cons a L => simp [jnF]
theorem jnF_take_le (c : UInt8) (L : List ByteArray) (k : Nat) : (jnF c (L.take k)).length ≤ (jnF c L).length := by
  have h : jnF c L = jnF c (L.take k) ++ jnF c (L.drop k) := by rw [← jnF_app, List.take_append_drop]
  rw [h, List.length_append]; omega
theorem join_jnF (c : UInt8) {L : List ByteArray} (h : L ≠ []) : Lib.join (L.map (·.data.toList)) [c] = (jnF c L).drop 1 := by
  cases L with
  | nil => exact absurd rfl h
  | cons a L =>
    rw [List.map_cons, Lib.join_cons]
    simp [Lib.joinTail, jnF, List.map_map, Function.comp_def]
def jnB (c : UInt8) (L : List ByteArray) : ByteArray := mkB ((jnF c L).drop 1)
/-- The texts can be joined. -/
def jnOk (c : UInt8) (L : List ByteArray) : Prop := (∀ b ∈ L, c ∉ b.data.toList) ∧ (jnF c L).length ≤ 4001
instance (c : UInt8) (L : List ByteArray) : Decidable (jnOk c L) := by unfold jnOk; infer_instance
theorem jnOk.take {c : UInt8} {L : List ByteArray} (h : jnOk c L) (k : Nat) : jnOk c (L.take k) :=
  ⟨fun b hb => h.1 b (List.mem_of_mem_take hb), Nat.le_trans (jnF_take_le c L k) h.2⟩
theorem take_next {L : List ByteArray} {k : Nat} {b : ByteArray} (h : L[k]? = some b) : L.take (k + 1) = L.take k ++ [b] := by
  rw [List.take_add_one, h]; rfl
theorem jnOk_next {c : UInt8} {L : List ByteArray} {k : Nat} {b : ByteArray} (h : jnOk c (L.take k)) (hb : L[k]? = some b) (h1 : c ∉ b.data.toList) (h2 : (jnF c (L.take k)).length + 1 + b.size ≤ 4001) : jnOk c (L.take (k + 1)) := by
  rw [take_next hb]
  refine ⟨fun x hx => ?_, by rw [jnF_snoc, List.length_append, List.length_cons, ← Lib.size_eq]; omega⟩
  rcases List.mem_append.1 hx with h' | h'
  · exact h.1 x h'
  · rw [List.mem_singleton.1 h']; exact h1
theorem jnF_next {c : UInt8} {L : List ByteArray} {k : Nat} {b : ByteArray} (hb : L[k]? = some b) : (jnF c (L.take (k + 1))).length = (jnF c (L.take k)).length + 1 + b.size := by
  rw [take_next hb, jnF_snoc, List.length_append, List.length_cons, ← Lib.size_eq]; omega
theorem jnOk_not_mem {c : UInt8} {L : List ByteArray} {k : Nat} {b : ByteArray} (hb : L[k]? = some b) (h1 : c ∈ b.data.toList) : ¬ jnOk c L := fun h => h.1 b (List.mem_of_getElem? hb) h1
theorem jnOk_not_len {c : UInt8} {L : List ByteArray} {k : Nat} {b : ByteArray} (hb : L[k]? = some b) (h2 : ¬ (jnF c (L.take k)).length + 1 + b.size ≤ 4001) : ¬ jnOk c L := fun h => h2 (by rw [← jnF_next hb]; exact (h.take (k + 1)).2)
theorem jn_first {c : UInt8} {L : List ByteArray} {b : ByteArray} (hb : L[0]? = some b) : jnB c (L.take 1) = b := by
  unfold jnB
  rw [take_next (k := 0) hb, jnF_snoc]
  simp [jnF, mkB_data]
theorem jn_next {c : UInt8} {L : List ByteArray} {k : Nat} {b : ByteArray} (hk : 1 ≤ k) (hb : L[k]? = some b) : jnB c (L.take (k + 1)) = jnB c (L.take k) ++ ⟨#[c]⟩ ++ b := by
  have hne : L.take k ≠ [] := by
    have hl : k < L.length := (List.getElem?_eq_some_iff.1 hb).1
    intro e
    have := congrArg List.length e
    rw [List.length_take, List.length_nil] at this
    omega
  have hp := jnF_pos c hne
  refine ba_ext ?_
  unfold jnB
  rw [take_next hb, jnF_snoc, List.drop_append_of_le_length hp]
  simp [mkB_list]
theorem jnB_size {c : UInt8} {L : List ByteArray} : (jnB c L).size = (jnF c L).length - 1 := by unfold jnB; rw [mkB_size, List.length_drop]
def jnV (c : UInt8) (L : List ByteArray) : Value := if jnOk c L then .tuple #[.string (jnB c L), .bool true] else .tuple #[.string ⟨#[]⟩, .bool false]
theorem StrS.one {w : World} {A : Option Addr} {L : List ByteArray} (h : StrS w A L) (hn : L ≠ []) : ∃ g o, A = some ⟨g, o, none⟩ ∧ ∀ j b, L[j]? = some b → w.cell? ⟨g, o + j, none⟩ = some (.string b) := by
  cases L with
  | nil => exact absurd rfl hn
  | cons a L =>
    obtain ⟨g, o, rfl, _⟩ := h 0 a rfl
    refine ⟨g, o, rfl, fun j b hj => ?_⟩
    obtain ⟨g', o', e, hc⟩ := h j b hj
    cases e; exact hc

set_option maxHeartbeats 1000000 in
set_option maxRecDepth 100000 in
theorem specJoin_yes (A : Option Addr) (cp : Nat) (L : List ByteArray) (c : UInt8) (w : World) (h : StrS w A L) (hn : L ≠ []) (hl : L.length ≤ 1048576) (hz : ∀ b ∈ L, b.size ≤ 1048576) :
    Calls Tryd.prog 38 #[.slice A L.length cp, .string ⟨#[c]⟩] w fun e w' => e = .returned (jnV c L) ∧ Below w.heap.size w w' := by
  obtain ⟨g, o, rfl, hcell⟩ := h.one hn
  clear h
  have hHC := Lib.hid hcell
  clear hcell
  have hn1 : 1 ≤ L.length := by cases L with | nil => exact absurd rfl hn | cons a L => simp
  have hVn : Hid (¬ jnOk c L → jnV c L = .tuple #[.string ⟨#[]⟩, .bool false]) := Lib.hid fun h => by unfold jnV; rw [if_neg h]
  have hVy : Hid (jnOk c L → jnV c L = .tuple #[.string (jnB c L), .bool true]) := Lib.hid fun h => by unfold jnV; rw [if_pos h]
  clear hn
  have hL0 : ((L.length : Int) == 0) = false := by rw [beq_eq_false_iff_ne]; omega
  go_enter Tryd.func38, Tryd.ntmps38
  go_wp2
  go_loopw [6, 7] (fun s i wr => ∃ k : Nat, k ≤ L.length ∧ i = .int .i64 (k : Int) ∧ s = .string (jnB c (L.take k)) ∧ jnOk c (L.take k) ∧ Below w.heap.size w wr) (fun _ i _ => L.length - (intOf i).toNat)
  case atStart => exact ⟨0, Nat.zero_le _, rfl, rfl, ⟨by simp, by simp [jnF]⟩, Below.refl _ _⟩
  case round =>
    obtain ⟨k, hk, rfl, rfl, hok, hb0⟩ := hrel
    by_cases hlt : k < L.length
    · have hx : L[k]? = some L[k] := List.getElem?_eq_getElem hlt
      have hbz : L[k].size ≤ 1048576 := hz _ (List.getElem_mem hlt)
      have hc0 := hHC.out k _ hx
      have hc := (hb0.cell (World.block_lt_of_cell? w _ hc0)).trans hc0
      have hS := Lib.hid (fun w => l1Stands_any L[k] c w (by unfold maxLen; omega))
      have i0 : (0 : Int) ≤ (k : Int) := by omega
      have i1 : (k : Int) < (L.length : Int) := by omega
      have hsz := jnB_size (c := c) (L := L.take k)
      have hsz2 := hok.2
      by_cases hm : c ∈ L[k].data.toList
      · have hno := Lib.hid (hVn.out (jnOk_not_mem hx hm))
        rw [decide_eq_true hm] at hS
        clear hm hz hok hx hVn hVy hc0
        generalize L[k] = b at *
        generalize jnB c (L.take k) = q at *
        go_wp2_with fail
        go_quiet ((go_at_call 59; exact Calls.quiet_of ((hS.out _).mono fun _ _ h => ⟨h.1, 0, h.2.symm⟩)))
        go_wp2
        go_ret2
        exact ⟨by rw [hno.out]; rfl, Below.drewN' hb0 _⟩
      · rw [decide_eq_false hm] at hS
        have hnx := jnF_next (c := c) hx
        by_cases hfit : (jnF c (L.take k)).length + 1 + L[k].size ≤ 4001
        · have hok2 := Lib.hid (jnOk_next hok hx hm hfit)
          by_cases hk0 : k = 0
          · have hkz : ¬ (0 : Int) < (k : Int) := by omega
            replace hc : wr.cell? ⟨g, o + ((k : Int)).toNat, none⟩ = some (.string L[k]) := hc
            have hqe : Hid (jnB c (L.take k) ++ L[k] = L[k]) := Lib.hid (by subst hk0; exact ba_ext (by simp [jnB, jnF, mkB]))
            have hqs : (jnB c (L.take k)).size = 0 := by rw [hsz]; subst hk0; simp [jnF]
            have hcz : (jnB c (L.take k) ++ L[k]).size = L[k].size := by rw [hqe.out]
            have hbz2 : L[k].size ≤ 4000 := by omega
            have hqx : Hid (jnB c (L.take k) ++ L[k] = jnB c (L.take (k + 1))) := Lib.hid (hqe.out.trans (by subst hk0; exact (jn_first hx).symm))
            clear hm hz hok hx hVn hVy hc0 hqe hfit hnx hsz hsz2 hk0
            generalize L[k] = b at *
            generalize jnB c (L.take k) = q at *
            have HK := Lib.hid hk
            have HL := Lib.hid hlt
            generalize hzk : (k : Int) = z at *
            have HZ := Lib.hid hzk
            clear hzk hk hlt
            go_wp2_with fail
            go_quiet ((go_at_call 59; exact Calls.quiet_of ((hS.out _).mono fun _ _ h => ⟨h.1, 0, h.2.symm⟩)))
            go_wp2
            go_roundw
            case rel => exact ⟨k + 1, HL.out, by rw [← HZ.out]; go_num, by rw [hqx.out], hok2.out, Below.drewN' hb0 _⟩
            case measure => have h1 := HZ.out; have h2 := HL.out; simp only [intOf]; omega
          · have hk1 : 1 ≤ k := by omega
            have hkp : (0 : Int) < (k : Int) := by omega
            have hfp : 1 ≤ (jnF c (L.take k)).length := jnF_pos c (by intro e; have := congrArg List.length e; rw [List.length_take, List.length_nil] at this; omega)
            have hqx : Hid (jnB c (L.take k) ++ ⟨#[c]⟩ ++ L[k] = jnB c (L.take (k + 1))) := Lib.hid (jn_next hk1 hx).symm
            have hs1 : (jnB c (L.take k) ++ ⟨#[c]⟩).size = (jnB c (L.take k)).size + 1 := by rw [ByteArray.size_append]; rfl
            have hs2 : (jnB c (L.take k) ++ ⟨#[c]⟩ ++ L[k]).size = (jnB c (L.take k)).size + 1 + L[k].size := by rw [ByteArray.size_append, hs1]
            have hs3 : (jnB c (L.take k)).size + 1 + L[k].size ≤ 4000 := by omega
            clear hm hz hok hx hVn hVy hc0 hfit hnx hsz hsz2 hk0 hfp
            generalize L[k] = b at *
            generalize jnB c (L.take k) = q at *
            go_wp2_with fail
            go_quiet ((go_at_call 59; exact Calls.quiet_of ((hS.out _).mono fun _ _ h => ⟨h.1, 0, h.2.symm⟩)))
            go_wp2
            go_roundw
            case rel => exact ⟨k + 1, by omega, by go_num, by rw [hqx.out], hok2.out, Below.drewN' hb0 _⟩
            case measure => simp [intOf]; omega
        · have hno := Lib.hid (hVn.out (jnOk_not_len hx hfit))
          by_cases hk0 : k = 0
          · have hkz : ¬ (0 : Int) < (k : Int) := by omega
            replace hc : wr.cell? ⟨g, o + ((k : Int)).toNat, none⟩ = some (.string L[k]) := hc
            have hqe : Hid (jnB c (L.take k) ++ L[k] = L[k]) := Lib.hid (by subst hk0; exact ba_ext (by simp [jnB, jnF, mkB]))
            have hqs : (jnB c (L.take k)).size = 0 := by rw [hsz]; subst hk0; simp [jnF]
            have hF0 : (jnF c (L.take k)).length = 0 := by subst hk0; simp [jnF]
            have hcz : (jnB c (L.take k) ++ L[k]).size = L[k].size := by rw [hqe.out]
            have hbz2 : 4000 < L[k].size := by omega
            clear hm hz hok hx hVn hVy hc0 hqe hfit hnx hsz hsz2 hF0 hk0
            generalize L[k] = b at *
            generalize jnB c (L.take k) = q at *
            have HL := Lib.hid hlt
            generalize hzk : (k : Int) = z at *
            have HZ := Lib.hid hzk
            clear hzk hk hlt
            go_wp2_with fail
            go_quiet ((go_at_call 59; exact Calls.quiet_of ((hS.out _).mono fun _ _ h => ⟨h.1, 0, h.2.symm⟩)))
            go_wp2
            go_ret2
            exact ⟨by rw [hno.out]; rfl, Below.drewN' hb0 _⟩
          · have hk1 : 1 ≤ k := by omega
            have hkp : (0 : Int) < (k : Int) := by omega
            have hfp : 1 ≤ (jnF c (L.take k)).length := jnF_pos c (by intro e; have := congrArg List.length e; rw [List.length_take, List.length_nil] at this; omega)
            have hs1 : (jnB c (L.take k) ++ ⟨#[c]⟩).size = (jnB c (L.take k)).size + 1 := by rw [ByteArray.size_append]; rfl
            have hs2 : (jnB c (L.take k) ++ ⟨#[c]⟩ ++ L[k]).size = (jnB c (L.take k)).size + 1 + L[k].size := by rw [ByteArray.size_append, hs1]
            have hs3 : 4000 < (jnB c (L.take k)).size + 1 + L[k].size := by omega
            have hs4 : (jnB c (L.take k)).size ≤ 4000 := by omega
            clear hm hz hok hx hVn hVy hc0 hfit hnx hsz hsz2 hk0 hfp
            generalize L[k] = b at *
            generalize jnB c (L.take k) = q at *
            go_wp2_with fail
            go_quiet ((go_at_call 59; exact Calls.quiet_of ((hS.out _).mono fun _ _ h => ⟨h.1, 0, h.2.symm⟩)))
            go_wp2
            go_ret2
            exact ⟨by rw [hno.out]; rfl, Below.drewN' hb0 _⟩
    · have hkn : k = L.length := by omega
      have hy : Hid (jnV c L = .tuple #[.string (jnB c (L.take k)), .bool true]) := by
        have e : L.take k = L := List.take_of_length_le (by omega)
        rw [e] at hok ⊢
        exact hVy.out hok
      clear hkn hz hok hVn hVy
      generalize jnB c (L.take k) = q at *
      go_wp2
      go_ret2
      exact ⟨by rw [hy.out]; rfl, hb0⟩

theorem jnF_ge (c : UInt8) (L : List ByteArray) : L.length ≤ (jnF c L).length := by
  induction L with
  | nil => simp [jnF]
  | cons a L ih =>
    have e : jnF c (a :: L) = (c :: a.data.toList) ++ jnF c L := by simp [jnF]
    rw [e, List.length_append, List.length_cons, List.length_cons]; omega
theorem jnF_rest (c : UInt8) (L : List ByteArray) (k : Nat) : (jnF c (L.take k)).length + (L.length - k) ≤ (jnF c L).length := by
  have h : jnF c L = jnF c (L.take k) ++ jnF c (L.drop k) := by rw [← jnF_app, List.take_append_drop]
  have := jnF_ge c (L.drop k)
  rw [h, List.length_append]; rw [List.length_drop] at this; omega
theorem join_lib {c : UInt8} {L : List ByteArray} (h : L ≠ []) : (⟨(Lib.join (L.map (·.data.toList)) (⟨#[c]⟩ : ByteArray).data.toList).toArray⟩ : ByteArray) = jnB c L := by
  have e : Lib.join (L.map (·.data.toList)) (⟨#[c]⟩ : ByteArray).data.toList = (jnF c L).drop 1 := join_jnF c h
  rw [e]; rfl

set_option maxHeartbeats 1000000 in
set_option maxRecDepth 100000 in
theorem implJoin_yes (A : Option Addr) (cp : Nat) (L : List ByteArray) (c : UInt8) (w : World) (h : StrS w A L) (hn : L ≠ []) (hl : L.length ≤ 1048576) (hcp : L.length ≤ cp) (hz : ∀ b ∈ L, b.size ≤ 1048576) :
    Calls Tryd.prog 37 #[.slice A L.length cp, .string ⟨#[c]⟩] w fun e w' => e = .returned (jnV c L) ∧ Below w.heap.size w w' := by
  obtain ⟨g, o, rfl, hcell⟩ := h.one hn
  clear h
  have hHC := Lib.hid hcell
  clear hcell
  have hn1 : 1 ≤ L.length := by cases L with | nil => exact absurd rfl hn | cons a L => simp
  have hVn : Hid (¬ jnOk c L → jnV c L = .tuple #[.string ⟨#[]⟩, .bool false]) := Lib.hid fun h => by unfold jnV; rw [if_neg h]
  have hVy : Hid (jnOk c L → jnV c L = .tuple #[.string (jnB c L), .bool true]) := Lib.hid fun h => by unfold jnV; rw [if_pos h]
  have hJ : Hid (∀ w, (∀ (j : Nat) x, L[j]? = some x → w.cell? ⟨g, o + j, none⟩ = some (.string x)) → (jnF c L).length ≤ 4001 → Calls Tryd.prog 72 #[.slice (some ⟨g, o, none⟩) L.length cp, .string ⟨#[c]⟩] w fun e w' => e = .returned (.string (jnB c L)) ∧ Below w.heap.size w w') := by
    refine Lib.hid fun w hc hf => ?_
    obtain ⟨b0, hb0⟩ : ∃ b0, L[0]? = some b0 := ⟨_, List.getElem?_eq_getElem hn1⟩
    have hlt := World.block_lt_of_cell? w _ (hc 0 b0 hb0)
    refine (Tryd.strings_Join g o cp L ⟨#[c]⟩ w hc hlt (by omega) hcp ?_).mono ?_
    · have e : Lib.join (L.map (·.data.toList)) (⟨#[c]⟩ : ByteArray).data.toList = (jnF c L).drop 1 := join_jnF c hn
      rw [e, List.length_drop]; omega
    · rintro e w' ⟨rfl, hb⟩
      exact ⟨by rw [join_lib hn], hb⟩
  clear hn
  have hL0 : ((L.length : Int) == 0) = false := by rw [beq_eq_false_iff_ne]; omega
  go_enter Tryd.func37, Tryd.ntmps37
  go_wp2
  go_loopw [6, 8, 22] (fun s _ i wr => ∃ k T : Nat, k ≤ L.length ∧ i = .int .i64 (k : Int) ∧ s = .int .i64 (T : Int) ∧ Hid (T + k + 1 = L.length + (jnF c (L.take k)).length) ∧ T ≤ 1048576 ∧ (k = 0 ∨ T ≤ 4000) ∧ Hid (∀ b ∈ L.take k, c ∉ b.data.toList) ∧ Below w.heap.size w wr) (fun _ _ i _ => L.length - (intOf i).toNat)
  case atStart => exact ⟨0, L.length - 1, Nat.zero_le _, rfl, by go_num, Lib.hid (by simp [jnF]; omega), by omega, .inl rfl, Lib.hid (by simp), Below.refl _ _⟩
  case round =>
    obtain ⟨k, T, hk, rfl, rfl, hT, hTb, hT4, hno, hb0⟩ := hrel
    by_cases hlt : k < L.length
    · have hx : L[k]? = some L[k] := List.getElem?_eq_getElem hlt
      have hbz : L[k].size ≤ 1048576 := hz _ (List.getElem_mem hlt)
      have hc0 := hHC.out k _ hx
      have hc := (hb0.cell (World.block_lt_of_cell? w _ hc0)).trans hc0
      have hS := Lib.hid (fun w => Tryd.strings_Contains_one L[k] c w)
      rw [decide_eq_decide.2 (indexByte_mem L[k].data.toList c)] at hS
      have i0 : (0 : Int) ≤ (k : Int) := by omega
      have i1 : (k : Int) < (L.length : Int) := by omega
      have hnx := jnF_next (c := c) hx
      have hrs := jnF_rest c L (k + 1)
      have hT2 : Hid (T + L[k].size + (k + 1) + 1 = L.length + (jnF c (L.take (k + 1))).length) := Lib.hid (by rw [hnx]; have := hT.out; omega)
      by_cases hfit : T + L[k].size ≤ 4000
      · by_cases hm : c ∈ L[k].data.toList
        · have hnv := Lib.hid (hVn.out (jnOk_not_mem hx hm))
          rw [decide_eq_true hm] at hS
          clear hm hz hx hVn hVy hc0 hT hT2 hno hnx hrs hJ hT4
          generalize L[k] = b at *
          go_wp2_with (go_at_call 57; refine (hS.out _).mono ?_; rintro e w' ⟨rfl, rfl⟩)
          go_ret2
          exact ⟨by rw [hnv.out]; rfl, hb0⟩
        · have hno2 : Hid (∀ b ∈ L.take (k + 1), c ∉ b.data.toList) := by
            refine Lib.hid ?_
            rw [take_next hx]
            intro b hb
            rcases List.mem_append.1 hb with h' | h'
            · exact hno.out b h'
            · rw [List.mem_singleton.1 h']; exact hm
          rw [decide_eq_false hm] at hS
          clear hm hz hx hVn hVy hc0 hT hno hnx hrs hJ hT4
          generalize L[k] = b at *
          go_wp2_with (go_at_call 57; refine (hS.out _).mono ?_; rintro e w' ⟨rfl, rfl⟩)
          go_roundw
          case rel => exact ⟨k + 1, T + b.size, by omega, by go_num, by go_num, hT2, by omega, .inr hfit, hno2, hb0⟩
          case measure => simp [intOf]; omega
      · have hnv := Lib.hid (hVn.out fun h => by have h1 := h.2; have h2 := hT2.out; omega)
        clear hz hx hVn hVy hc0 hT hT2 hno hnx hrs hJ hT4
        generalize L[k] = b at *
        go_wp2
        go_ret2
        exact ⟨by rw [hnv.out]; rfl, hb0⟩
    · have hkn : k = L.length := by omega
      have hok : jnOk c L := by
        have e : L.take k = L := List.take_of_length_le (by omega)
        have h1 := hT.out
        have h2 := hno.out
        rw [e] at h1 h2
        refine ⟨h2, ?_⟩
        rcases hT4 with h | h <;> omega
      have hy := Lib.hid (hVy.out hok)
      have hJ2 := Lib.hid (fun (w2 : World) (hb : Below w.heap.size w w2) => hJ.out w2 (fun j x hj => keep_cell hb (hHC.out j x hj)) hok.2)
      clear hkn hz hok hVn hVy hT hno hJ hT4
      generalize jnB c L = q at *
      go_wp2_with fail
      refine (hJ2.out _ hb0).mono ?_
      rintro e w2 ⟨rfl, hb2⟩
      go_wp2
      go_ret2
      exact ⟨by rw [hy.out]; rfl, keep_below hb2 hb0⟩
end Go.Proofs.YtfpokpgkkjibfaaDoor
