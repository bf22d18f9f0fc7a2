/- Lists of strings that a law is given: read, weighed, copied; JoinStrings where it says no. -/
import Derived.Test.YtfpokpgkkjibfaaJoin
import Derived.SliceStrings
namespace Go.Proofs.Ytfpokpgkkjibfaa
open Go.ChangeShapes Go.WideShapes Go.ChangeAt Go.RowKit
open Go.ChangeMaps (open_string shut_string)

section
variable {H : Type} {enc : TypeId × Value → H} {W : World} {base : Nat} {held : Bool}
theorem cells_str : Try.prog.cellsOf 9 = 1 := by kernel_rfl
theorem addr_plain {w : World} {a : Addr} {v : Value} (h : w.cell? (a.add 0) = some v) : ∃ g o, a = ⟨g, o, none⟩ := by
  obtain ⟨b, o, s⟩ := a
  have hs : s = none := by
    rcases s with _ | s
    · rfl
    · simp [Addr.add, World.cell?] at h
      split at h <;> simp at h
  subst hs
  exact ⟨b, o, rfl⟩
theorem addr_add (g o j : Nat) : (⟨g, o, none⟩ : Addr).add j = ⟨g, o + j, none⟩ := by unfold Addr.add; split <;> simp_all
theorem open_StringS {v : Value} {d : DataW H} {p : List MemPlace} (hv : Value.okWide Try.prog W .any base 22 v) (h : DataW.Trod enc Try.prog W 0 (fun _ => true) held 22 v d p) :
    ∃ A n c xs, v = .slice A n c ∧ (xs.length = n ∧ n ≤ c ∧ c ≤ maxLen ∧ (∀ b ∈ xs, b.size ≤ maxLen) ∧ StrS W A xs) := by
  obtain ⟨fuel, hf⟩ := h
  obtain ⟨A, n, c, rfl⟩ := okWide_slice Try.underlying22 hv
  have hf' : DataW.trod enc Try.prog W 0 (fun _ => true) held fuel 22 [.slice A n c] = some (d, p) := by simpa [Value.cells] using hf
  rcases open_strings Try.underlying22 Try.underlying9 cells_str hf' with ⟨hcs, hx⟩ | ⟨a, len, cap, ss, hcs, _, hl, hm, hz, hx, hcell, hwz⟩
  · simp at hcs
    obtain ⟨rfl, rfl, rfl⟩ := hcs
    exact ⟨none, 0, 0, [], rfl, rfl, by omega, by simp [maxLen], by simp, fun j b h => by simp at h⟩
  · simp at hcs
    obtain ⟨rfl, rfl, rfl⟩ := hcs
    have hz' : ss.length = c := by simpa using hz
    refine ⟨some a, n, c, ss.take n, rfl, by rw [List.length_take]; omega, hl, hm, fun b hb => hwz b (List.mem_of_mem_take hb), fun j b hj => ?_⟩
    have hjn : j < (ss.take n).length := (List.getElem?_eq_some_iff.1 hj).1
    rw [List.length_take] at hjn
    obtain ⟨g, o, rfl⟩ := addr_plain (hcell 0 (by omega))
    refine ⟨g, o, rfl, ?_⟩
    have := hcell j (by omega)
    rw [addr_add] at this
    rw [this]
    rw [List.getElem?_take, if_pos (by omega)] at hj
    rw [List.getD, hj]; rfl
end

/-- The weight of a list of strings. -/
def wgtS (L : List ByteArray) : Nat := (L.map fun b => b.size).sum
theorem wgtS_next {L : List ByteArray} {k : Nat} {b : ByteArray} (h : L[k]? = some b) : wgtS (L.take (k + 1)) = wgtS (L.take k) + b.size := by
  rw [take_next h]; simp [wgtS]
theorem wgtS_mem {L : List ByteArray} {b : ByteArray} (h : b ∈ L) : b.size ≤ wgtS L := by
  induction L with
  | nil => simp at h
  | cons a L ih =>
    have e : wgtS (a :: L) = a.size + wgtS L := by simp [wgtS]
    rcases List.mem_cons.1 h with rfl | h
    · omega
    · have := ih h; omega
theorem wgtS_take_le (L : List ByteArray) (k : Nat) : wgtS (L.take k) ≤ wgtS L := by
  have ha : ∀ A B : List ByteArray, wgtS (A ++ B) = wgtS A + wgtS B := fun A B => by simp [wgtS]
  have e := ha (L.take k) (L.drop k)
  rw [List.take_append_drop] at e
  omega

set_option maxRecDepth 100000 in
/-- The law's weighing: at least 0 exactly if all of it is light. -/
theorem szStringS_any (A : Option Addr) (cp : Nat) (L : List ByteArray) (w : World) (h : StrS w A L) (hn : L.length ≤ maxLen) (hz : ∀ b ∈ L, b.size ≤ maxLen) :
    Calls Try.prog 4 #[.slice A L.length cp, .int .i64 1048576] w fun e w' => (∃ z : Int, e = .returned (.int .i64 z) ∧ ((0 ≤ z ∧ z ≤ 1048576 ∧ L.length + wgtS L ≤ 1048576) ∨ (z = -1 ∧ ¬ L.length + wgtS L ≤ 1048576))) ∧ w = w' := by
  unfold maxLen at hn hz
  by_cases hl : L.length ≤ 1048576
  case neg =>
    go_enter Try.func4, Try.ntmps4
    go_wp2
    go_ret
    exact ⟨⟨-1, rfl, .inr ⟨rfl, by omega⟩⟩, rfl⟩
  go_enter Try.func4, Try.ntmps4
  go_wp2
  go_loop [1, 5] (fun z i => ∃ k t : Nat, k ≤ L.length ∧ i = .int .i64 (k : Int) ∧ z = .int .i64 (t : Int) ∧ Hid (t + L.length + wgtS (L.take k) = 1048576) ∧ t ≤ 1048576) (fun _ i => L.length - (intOf i).toNat)
  case atStart => exact ⟨0, 1048576 - L.length, Nat.zero_le _, rfl, by go_num, Lib.hid (by simp [wgtS]; omega), by omega⟩
  case round =>
    obtain ⟨k, t, hk, rfl, rfl, ht, htb⟩ := hrel
    by_cases hlt : k < L.length
    · have hx : L[k]? = some L[k] := List.getElem?_eq_getElem hlt
      have hbz := hz _ (List.getElem_mem hlt)
      obtain ⟨g, o, rfl, hc⟩ := h k _ hx
      have i0 : (0 : Int) ≤ (k : Int) := by omega
      have i1 : (k : Int) < (L.length : Int) := by omega
      have hnx := wgtS_next hx
      have htk := wgtS_take_le L (k + 1)
      by_cases hfit : L[k].size ≤ t
      · have ht2 : Hid (t - L[k].size + L.length + wgtS (L.take (k + 1)) = 1048576) := Lib.hid (by have := ht.out; rw [hnx]; omega)
        clear h hz hx ht hnx htk
        generalize L[k] = b at *
        go_wp2
        go_round
        case rel => exact ⟨k + 1, t - b.size, by omega, by go_num, by go_num, ht2, by omega⟩
        case measure => simp [intOf]; omega
      · have hno : Hid (¬ L.length + wgtS L ≤ 1048576) := Lib.hid (by have := ht.out; omega)
        clear h hz hx ht hnx htk
        generalize L[k] = b at *
        go_wp2
        go_ret
        exact ⟨⟨-1, rfl, .inr ⟨rfl, Nat.not_le.1 hno.out⟩⟩, rfl⟩
    · have hy : Hid (L.length + wgtS L ≤ 1048576) := Lib.hid (by
        have e : L.take k = L := List.take_of_length_le (by omega)
        have := ht.out
        rw [e] at this; omega)
      clear h hz ht
      go_wp2
      go_ret
      exact ⟨⟨_, rfl, .inl ⟨by omega, by omega, hy.out⟩⟩, rfl⟩

theorem run_makeS (n : Nat) (hn : n ≤ 1048576) (w : World) :
    (Instr.makeSlice 22 (.int .i64 (n : Int)) (.int .i64 (n : Int))).run Try.prog w = .ok (.slice (some ⟨w.heap.size, 0, none⟩) n n) (w.alloc (.cells (Lib.cellsOf [] n) 9)) := by
  obtain ⟨i0, hi, hz0, hz1, hz2⟩ := infoS_parts
  have h := run_make (P := Try.prog) w 22 9 i0 (.string ByteArray.empty) Try.underlying22 hi hz0 .i64 .i64 (n : Int) (n : Int) (by omega) (Int.le_refl _) (by rw [hz2]; omega) (by omega)
  rw [h, Lib.cellsOf_nil]
  simp [Value.cells, hz1]
set_option maxRecDepth 100000 in
theorem toStringS_any (A : Option Addr) (cp : Nat) (L : List ByteArray) (w : World) (h : StrS w A L) (hn : L.length ≤ 1048576) :
    Calls Try.prog 6 #[.slice A L.length cp] w fun e w' => e = .returned (.slice (some ⟨w.heap.size, 0, none⟩) L.length L.length) ∧ RowS w' w.heap.size L ∧ Below w.heap.size w w' := by
  have hmk := run_makeS L.length hn
  go_enter Try.func6, Try.ntmps6
  go_wp2
  go_loopw [4] (fun i wr => ∃ k : Nat, k ≤ L.length ∧ i = .int .i64 (k : Int) ∧ wr = w.alloc (.cells (Lib.cellsOf (L.take k) L.length) 9)) (fun i _ => L.length - (intOf i).toNat)
  case atStart => exact ⟨0, Nat.zero_le _, rfl, rfl⟩
  case round =>
    obtain ⟨k, hk, rfl, rfl⟩ := hrel
    by_cases hlt : k < L.length
    · have hx : L[k]? = some L[k] := List.getElem?_eq_getElem hlt
      obtain ⟨b, o, rfl, hc⟩ := h k _ hx
      have hb : b < w.heap.size := World.block_lt_of_cell? w _ hc
      have hkl : (L.take k).length = k := by rw [List.length_take]; omega
      have hset := Lib.cellsOf_set (done := L.take k) (N := L.length) (by omega) L[k]
      have hnx := Lib.cellsOf_next (done := L.take k) (N := L.length) (by omega)
      rw [hkl] at hset hnx
      rw [← take_next hx] at hset
      have HS := hset
      have i0 : (0 : Int) ≤ (k : Int) := by omega
      have i1 : (k : Int) < (L.length : Int) := by omega
      clear h hset hx
      generalize L[k] = x at *
      go_wp2
      go_roundw
      case rel => exact ⟨k + 1, by omega, by go_num, rfl⟩
      case measure => simp [intOf]; omega
    · have hf : Hid (Lib.cellsOf (L.take k) L.length = (strs L).toArray) := by
        have e : L.take k = L := List.take_of_length_le (by omega)
        rw [e]; exact Lib.cellsOf_full L
      clear h
      go_wp2
      go_ret
      exact ⟨rfl, ⟨_, heap_alloc_new w _, [], by rw [hf.out]; simp⟩, by (repeat (first | with_reducible exact Below.refl _ _ | with_reducible assumption | with_reducible refine Below.alloc' ?_ ?_ _ | with_reducible refine Below.setCell' ?_ ?_ _ | with_reducible refine Below.drewN' ?_ _ | with_reducible refine Below.drew ?_ | with_reducible refine Below.transA ?_ (by assumption) ?_ | omega | (focus (simp; done)) | (focus (simp; omega))))⟩

def noS : Value := .tuple #[.string ⟨#[]⟩, .bool false]
theorem specJoin_no (A : Option Addr) (cp n : Nat) (p : ByteArray) (w : World) (hn : n ≤ 1048576) (h : ¬ (p.size = 1 ∧ n ≠ 0)) :
    Calls Try.prog 5 #[.slice A n cp, .string p] w fun e w' => e = .returned noS ∧ Below w.heap.size w w' := by
  by_cases h1 : p.size = 1
  · have h2 : n = 0 := Decidable.byContradiction fun e => h ⟨h1, e⟩
    subst h2
    clear h
    go_enter Try.func5, Try.ntmps5
    go_wp2
    go_ret2
    exact ⟨rfl, Below.refl _ _⟩
  · have hz : ((p.size : Int) != 1) = true := by rw [bne_iff_ne]; omega
    clear h h1
    go_enter Try.func5, Try.ntmps5
    go_wp2
    go_ret2
    exact ⟨rfl, Below.refl _ _⟩
theorem implJoin_no (A : Option Addr) (cp n : Nat) (p : ByteArray) (w : World) (hn : n ≤ 1048576) (h : ¬ (p.size = 1 ∧ n ≠ 0)) :
    Calls Try.prog 7 #[.slice A n cp, .string p] w fun e w' => e = .returned noS ∧ Below w.heap.size w w' := by
  by_cases h2 : n = 0
  · subst h2
    clear h
    go_enter Try.func7, Try.ntmps7
    go_wp2
    go_ret2
    exact ⟨rfl, Below.refl _ _⟩
  · have hz : ((p.size : Int) != 1) = true := by rw [bne_iff_ne]; intro e; exact h ⟨by omega, h2⟩
    have hz2 : ((n : Int) == 0) = false := by rw [beq_eq_false_iff_ne]; omega
    clear h h2
    go_enter Try.func7, Try.ntmps7
    go_wp2
    go_ret2
    exact ⟨rfl, Below.refl _ _⟩
theorem join_two (L : List ByteArray) (p : ByteArray) (hl : L.length ≤ 1048576) (hz : ∀ b ∈ L, b.size ≤ 1048576) :
    ∃ (q : ByteArray) (b : Bool), (∀ A cp w, StrS w A L → Calls Try.prog 5 #[.slice A L.length cp, .string p] w fun e w' => e = .returned (.tuple #[.string q, .bool b]) ∧ Below w.heap.size w w') ∧
      (∀ A cp w, StrS w A L → L.length ≤ cp → Calls Try.prog 7 #[.slice A L.length cp, .string p] w fun e w' => e = .returned (.tuple #[.string q, .bool b]) ∧ Below w.heap.size w w') := by
  by_cases h : p.size = 1 ∧ L.length ≠ 0
  · obtain ⟨h1, h2⟩ := h
    obtain ⟨c, rfl⟩ := Lib.one_byte p h1
    have hne : L ≠ [] := fun e => h2 (by rw [e]; rfl)
    have hv : ∃ q b, jnV c L = .tuple #[.string q, .bool b] := by unfold jnV; split <;> exact ⟨_, _, rfl⟩
    obtain ⟨q, b, hv⟩ := hv
    exact ⟨q, b, fun A cp w hS => by rw [← hv]; exact specJoin_yes A cp L c w hS hne hl hz, fun A cp w hS hcp => by rw [← hv]; exact implJoin_yes A cp L c w hS hne hl hcp hz⟩
  · exact ⟨⟨#[]⟩, false, fun A cp w _ => specJoin_no A cp L.length p w hl h, fun A cp w _ _ => implJoin_no A cp L.length p w hl h⟩
end Go.Proofs.Ytfpokpgkkjibfaa
