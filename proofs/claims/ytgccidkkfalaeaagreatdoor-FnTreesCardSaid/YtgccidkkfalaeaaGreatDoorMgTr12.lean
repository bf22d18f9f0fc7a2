/- Lists of strings in memory. -/
import Derived.Test.YtgccidkkfalaeaaGreatDoorMgTr7
import Derived.Test.YtgccidkkfalaeaaGreatDoorMgTr2
import Derived.Test.YtgccidkkfalaeaaGreatDoorMgTr5
namespace Go.Proofs.YtgccidkkfalaeaaGreatDoor
open Go.ChangeShapes Go.WideShapes Go.ChangeAt Go.RowKit

def mkB (l : List UInt8) : ByteArray := ⟨l.toArray⟩
theorem mkB_data (s : ByteArray) : mkB s.data.toList = s := ba_ext (by simp [mkB])
theorem mkB_list (l : List UInt8) : (mkB l).data.toList = l := by simp [mkB]
theorem mkB_size (l : List UInt8) : (mkB l).size = l.length := by simp [mkB, ByteArray.size]
def strs (L : List ByteArray) : List Value := L.map Value.string
theorem strs_app (L : List ByteArray) (b : ByteArray) : strs (L ++ [b]) = strs L ++ [Value.string b] := by simp [strs]
theorem strs_len (L : List ByteArray) : (strs L).length = L.length := by simp [strs]
/-- Block g begins with the strings L. -/
def RowS (w : World) (g : Nat) (L : List ByteArray) : Prop := ∃ cs : Array Value, w.heap[g]? = some (.cells cs 9 (0, 0)) ∧ ∃ r, cs.toList = strs L ++ r
def OwnSS (w : World) (B : Nat) (A : Option Addr) (L : List ByteArray) : Prop := (A = none ∧ L = []) ∨ ∃ g, A = some ⟨g, 0, none⟩ ∧ B ≤ g ∧ RowS w g L
section
variable {w w' : World} {g : Nat} {L : List ByteArray}
theorem RowS.lt (h : RowS w g L) : g < w.heap.size := by
  obtain ⟨cs, h, _⟩ := h
  rcases Nat.lt_or_ge g w.heap.size with hlt | hge
  · exact hlt
  · rw [Array.getElem?_eq_none hge] at h; cases h
theorem RowS.of_block (h : RowS w g L) (hb : w'.heap[g]? = w.heap[g]?) : RowS w' g L := by
  obtain ⟨cs, h, hr⟩ := h
  exact ⟨cs, hb.trans h, hr⟩
theorem RowS.below (h : RowS w g L) (hb : Below w.heap.size w w') : RowS w' g L := h.of_block (hb.block g h.lt)
theorem RowS.cell (h : RowS w g L) {j : Nat} {b : ByteArray} (hj : L[j]? = some b) : w.cell? ⟨g, j, none⟩ = some (.string b) := by
  obtain ⟨cs, h, r, hr⟩ := h
  have hl : j < L.length := (List.getElem?_eq_some_iff.1 hj).1
  rw [cell_of_row _ _ _ _ _ _ h, ← Array.getElem?_toList, hr, List.getElem?_append_left (by rw [strs_len]; exact hl)]
  simp [strs, hj]
theorem RowS.frozen (h : RowS w g L) (j : Nat) : w.frozen? ⟨g, j, none⟩ = false := by
  obtain ⟨cs, h, _⟩ := h
  unfold World.frozen?; rw [h]; simp
theorem OwnSS.mono {B B' : Nat} {A : Option Addr} (h : OwnSS w B A L) (hB : B' ≤ B) : OwnSS w B' A L := by
  rcases h with h | ⟨g, h1, h2, h3⟩
  · exact .inl h
  · exact .inr ⟨g, h1, by omega, h3⟩
theorem OwnSS.below {B : Nat} {A : Option Addr} (h : OwnSS w B A L) (hb : Below w.heap.size w w') : OwnSS w' B A L := by
  rcases h with h | ⟨g, h1, h2, h3⟩
  · exact .inl h
  · exact .inr ⟨g, h1, h2, h3.below hb⟩
theorem OwnSS.pos {B : Nat} {A : Option Addr} (h : OwnSS w B A L) (hn : 1 ≤ L.length) : ∃ g, A = some ⟨g, 0, none⟩ ∧ B ≤ g ∧ RowS w g L := by
  rcases h with ⟨_, e⟩ | h
  · rw [e] at hn; simp at hn
  · exact h
end
theorem own_formS {w : World} {B : Nat} {v : Value} {L : List ByteArray} {n : Nat} (h : w.ownsRow B 9 1 v n (strs L)) : ∃ A c, v = .slice A L.length c ∧ OwnSS w B A L := by
  have hl : L.length = n := by have := h.1; rw [strs_len] at this; omega
  subst hl
  rcases h.2 with ⟨rfl, h0⟩ | ⟨g, cap, cur, rfl, hg, hh, h1, h2, h3, h4⟩
  · exact ⟨none, 0, by rw [h0], .inl ⟨rfl, List.eq_nil_of_length_eq_zero h0⟩⟩
  · exact ⟨some ⟨g, 0, none⟩, cap, rfl, .inr ⟨g, rfl, hg, cur, hh, cur.toList.drop (L.length * 1), by rw [← h4, List.take_append_drop]⟩⟩
theorem own_emptyS (W : World) (B g : Nat) (hg : g = W.heap.size) (hB : B ≤ g) : (W.alloc (.cells #[] 9)).ownsRow B 9 1 (.slice (some ⟨g, 0, none⟩) 0 0) 0 [] := by
  subst hg
  exact ⟨rfl, .inr ⟨W.heap.size, 0, #[], rfl, hB, heap_alloc_new W _, Nat.le_refl _, by simp [maxLen], rfl, rfl⟩⟩
/-- A call that hands back a new list of strings. -/
def RetS (w : World) (L : List ByteArray) (e : Ending) (w' : World) : Prop := ∃ A c, e = .returned (.slice A L.length c) ∧ OwnSS w' w.heap.size A L ∧ Below w.heap.size w w'
theorem info_str : (Tryz.prog.info? 9).map (fun i => (i.zero, i.size, i.bytes)) = some (some (.string ByteArray.empty), 1, 16) := by kernel_rfl
theorem infoS_parts : ∃ i0, Tryz.prog.info? 9 = some i0 ∧ i0.zero = some (.string ByteArray.empty) ∧ i0.size = 1 ∧ i0.bytes = 16 := by
  have h := info_str
  cases hi : Tryz.prog.info? 9 with
  | none => rw [hi] at h; cases h
  | some i => rw [hi] at h; simp at h; exact ⟨i, rfl, h.1, h.2.1, h.2.2⟩
theorem bytes_eq {a b : ByteArray} : (a.toList == b.toList) = decide (a = b) := by
  rw [Lib.toList_data, Lib.toList_data]
  by_cases h : a = b
  · subst h; simp
  · rw [decide_eq_false h, beq_eq_false_iff_ne]; exact fun e => h (ba_ext e)
end Go.Proofs.YtgccidkkfalaeaaGreatDoor
/- The reference's l1Split: the parts of a text. -/
namespace Go.Proofs.YtgccidkkfalaeaaGreatDoor
open Go.ChangeShapes Go.WideShapes Go.ChangeAt Go.RowKit
open Go.ChangeMaps (open_string shut_string)

theorem slice_str (s : ByteArray) (d k : Nat) (hd : d ≤ k) (hk : k ≤ s.size) (w : World) : (Instr.slice 9 (.string s) (some (.int .i64 (d : Int))) (some (.int .i64 (k : Int))) none).run Tryz.prog w = .ok (.string (mkB ((s.data.toList.take k).drop d))) w := by
  rw [run_slice_string w 9 _ .i64 .i64 (d : Int) (k : Int) Tryz.underlying9 (by omega) (by omega) (by omega)]
  have e : s.extract ((d : Int).toNat) ((k : Int).toNat) = mkB ((s.data.toList.take k).drop d) := by
    rw [Lib.extract_eq, List.drop_take]; simp [mkB]
  rw [e]
theorem slice_from (s : ByteArray) (d : Nat) (hd : d ≤ s.size) (w : World) : (Instr.slice 9 (.string s) (some (.int .i64 (d : Int))) none none).run Tryz.prog w = .ok (.string (mkB (s.data.toList.drop d))) w := by
  rw [run_slice_string_from_if w 9 _ .i64 (d : Int) Tryz.underlying9, if_pos (by omega)]
  have e : s.extract ((d : Int).toNat) s.size = mkB (s.data.toList.drop d) := ba_ext (by rw [Lib.extract_to_end, mkB_list]; simp)
  rw [e]
theorem drop_cons (s : ByteArray) (k : Nat) (h : k < s.size) : s.data.toList.drop k = s[k] :: s.data.toList.drop (k + 1) := by
  rw [List.drop_eq_getElem_cons (by simpa using h)]; rfl
theorem grown_below {B : Nat} {w wr w1 : World} {v : Value} {n size : Nat} {e : TypeId} {xs : List Value} {o : Obj} (hown : wr.ownsRow B e size v n xs) (hB : w.heap.size ≤ B) (hb : Below w.heap.size w wr) (hg : (wr.alloc o).grownBy w1 v.ownBlock) : Below w.heap.size w w1 :=
  Below.grown (hb.alloc (hb.size) o) hg (by have := hb.size; simp; omega) (fun g h => by have := (hown.lt g h).1; omega)

set_option maxHeartbeats 1000000 in
set_option maxRecDepth 100000 in
theorem l1Split_any (s : ByteArray) (c : UInt8) (w : World) (hs : s.size ≤ 1048576) :
    Calls Tryz.prog 52 #[.string s, .int .u8 c.toNat] w (RetS w (partsB c s)) := by
  obtain ⟨i0, hi, hz0, hz1, hz2⟩ := infoS_parts
  go_enter Tryz.func52, Tryz.ntmps52
  go_wp2
  go_loopw [5, 6, 7] (fun v f i wr => ∃ k d : Nat, d ≤ k ∧ k ≤ s.size ∧ i = .int .i64 k ∧ f = .int .i64 d ∧ ∃ P : List ByteArray, P.length ≤ k ∧ wr.ownsRow w.heap.size 9 1 v P.length (strs P) ∧ Hid (P.map (·.data.toList) ++ glue ((s.data.toList.take k).drop d) (parts c (s.data.toList.drop k)) = parts c s.data.toList) ∧ Below w.heap.size w wr) (fun _ _ i _ => s.size - (intOf i).toNat)
  case atStart =>
    refine ⟨0, 0, by omega, by omega, rfl, rfl, [], Nat.le_refl _, own_emptyS _ _ _ (by simp) (by simp), ?_, by (repeat (first | with_reducible exact Below.refl _ _ | with_reducible assumption | with_reducible refine Below.alloc' ?_ ?_ _ | with_reducible refine Below.setCell' ?_ ?_ _ | with_reducible refine Below.drewN' ?_ _ | with_reducible refine Below.drew ?_ | with_reducible refine Below.transA ?_ (by assumption) ?_ | omega | (focus (simp; done)) | (focus (simp; omega))))⟩
    exact glue_nil (parts_ne _ _)
  case round =>
    obtain ⟨k, d, hdk, hk, rfl, rfl, P, hP, hown, heq, hb1⟩ := hrel
    have hwr := hb1.size
    by_cases hlt : k < s.size
    · have hb : s[k].toNat < 256 := s[k].toNat_lt
      by_cases hc : s[k].toNat = c.toNat
      · have hsl := fun w => slice_str s d k hdk hk w
        have heq2 : Hid ((P ++ [mkB ((s.data.toList.take k).drop d)]).map (·.data.toList) ++ glue ((s.data.toList.take (k + 1)).drop (k + 1)) (parts c (s.data.toList.drop (k + 1))) = parts c s.data.toList) := by
          refine Lib.hid ?_
          have e0 : (s.data.toList.take (k + 1)).drop (k + 1) = [] := List.drop_eq_nil_of_le (by rw [List.length_take]; omega)
          rw [← heq.out, drop_cons s k hlt, UInt8.toNat_inj.1 hc, parts_hit, e0, glue_nil (parts_ne _ _)]
          simp [glue, mkB_list]
        generalize mkB ((s.data.toList.take k).drop d) = p at *
        clear heq
        go_wp2_with (at_builtin; refine wpList_append_own_at _ rfl _ _ 61 rfl (w.heap.size) 9 i0 (.string ByteArray.empty) 1 16 Tryz.underlying61 hi hz0 hz1 hz2 rfl (by decide) _ _ _ rfl (hown.alloc _) ⟨wr.heap.size, 0, none⟩ 1 1 [.string p] rfl rfl (cell_one_new _ _ _) (by simp [Value.oneCell']) (by unfold maxLen; omega) (by omega) (by simp; omega) ?_; intro v' w1 hown1 hgrow _ _)
        have hb3 : Below w.heap.size w w1 := grown_below hown (Nat.le_refl _) hb1 hgrow
        have hown2 : w1.ownsRow w.heap.size 9 1 v' (P ++ [p]).length (strs (P ++ [p])) := by rw [strs_app, List.length_append]; exact hown1
        clear hown hgrow hb1 hown1
        go_wp2
        go_roundw
        case rel => exact ⟨k + 1, k + 1, by omega, by omega, by go_num, by go_num, P ++ [p], by simp; omega, hown2, heq2, hb3⟩
        case measure => simp only [intOf]; omega
      · have heq2 : Hid (P.map (·.data.toList) ++ glue ((s.data.toList.take (k + 1)).drop d) (parts c (s.data.toList.drop (k + 1))) = parts c s.data.toList) := by
          refine Lib.hid ?_
          have hne : s[k] ≠ c := fun e => hc (by rw [e])
          rw [← heq.out, drop_cons s k hlt, parts_miss hne, glue_glue, take_snoc s k hlt, List.drop_append_of_le_length (by simp; omega)]
        clear heq
        go_wp2
        go_roundw
        case rel => exact ⟨k + 1, d, by omega, by omega, by go_num, rfl, P, by omega, hown, heq2, hb1⟩
        case measure => simp only [intOf]; omega
    · have hkn : k = s.size := by omega
      have hsl := fun w => slice_from s d (by omega) w
      have heq2 : Hid (P ++ [mkB (s.data.toList.drop d)] = partsB c s) := by
        refine Lib.hid ?_
        have h := heq.out
        have e0 : s.data.toList.take s.size = s.data.toList := List.take_of_length_le (by simp)
        have e1 : s.data.toList.drop s.size = [] := List.drop_eq_nil_of_le (by simp)
        rw [hkn, e0, e1] at h
        unfold partsB
        rw [← h]
        have e2 : (fun l : List UInt8 => (⟨l.toArray⟩ : ByteArray)) ∘ (fun x : ByteArray => x.data.toList) = id := funext fun x => mkB_data x
        rw [List.map_append, List.map_map, e2, List.map_id]
        simp [parts, glue, mkB]
      generalize mkB (s.data.toList.drop d) = p at *
      clear heq hkn
      go_wp2_with (at_builtin; refine wpList_append_own_at _ rfl _ _ 61 rfl (w.heap.size) 9 i0 (.string ByteArray.empty) 1 16 Tryz.underlying61 hi hz0 hz1 hz2 rfl (by decide) _ _ _ rfl (hown.alloc _) ⟨wr.heap.size, 0, none⟩ 1 1 [.string p] rfl rfl (cell_one_new _ _ _) (by simp [Value.oneCell']) (by unfold maxLen; omega) (by omega) (by simp; omega) ?_; intro v' w1 hown1 hgrow _ _)
      have hb3 : Below w.heap.size w w1 := grown_below hown (Nat.le_refl _) hb1 hgrow
      have hown2 : w1.ownsRow w.heap.size 9 1 v' (P ++ [p]).length (strs (P ++ [p])) := by rw [strs_app, List.length_append]; exact hown1
      rw [heq2.out] at hown2
      obtain ⟨A', c', rfl, hO⟩ := own_formS hown2
      clear hown hgrow hb1 hown1 hown2
      go_wp2
      go_ret
      exact ⟨A', c', rfl, hO, hb3⟩
end Go.Proofs.YtgccidkkfalaeaaGreatDoor
