/- Lists of strings that a law is given: read, weighed, copied; JoinStrings where it says no. -/
import Derived.Test.YtfpokpgkkjibfaaDoorJoin
import Derived.SliceStrings
namespace Go.Proofs.YtfpokpgkkjibfaaDoor
open Go.ChangeShapes Go.WideShapes Go.ChangeAt Go.RowKit
open Go.ChangeMaps (open_string shut_string)

section
variable {H : Type} {enc : TypeId × Value → H} {W : World} {base : Nat} {held : Bool}
theorem cells_str : Tryd.prog.cellsOf 9 = 1 := by kernel_rfl
theorem addr_plain {w : World} {a : Addr} {v : Value} (h : w.cell? (a.add 0) = some v) : ∃ g o, a = ⟨g, o, none⟩ := by
  obtain ⟨b, o, s⟩ := a
  have hs : s = none := by
    rcases s with _ | s
    · rfl
    · simp [Addr.add, World.cell?] at h
      split at h <;> simp at h
  subst hs
  exact ⟨b, o, rfl⟩
theorem addr_add (g o j : Nat) : (⟨g, o, none⟩ : Addr).add j = ⟨g, o + j, none⟩ := by unfold Addr.add; split <;> simp_all
set_option maxRecDepth 100000 in
theorem open_StringS {v : Value} {d : DataW H} {p : List MemPlace} (hv : Value.okWide Tryd.prog W .any base 41 v) (h : DataW.Trod enc Tryd.prog W 0 (fun _ => true) held 41 v d p) :
    ∃ A n c xs, v = .slice A n c ∧ (xs.length = n ∧ n ≤ c ∧ c ≤ maxLen ∧ (∀ b ∈ xs, b.size ≤ maxLen) ∧ StrS W A xs) := by
  obtain ⟨fuel, hf⟩ := h
  obtain ⟨A, n, c, rfl⟩ := okWide_slice Tryd.underlying41 hv
  have hf' : DataW.trod enc Tryd.prog W 0 (fun _ => true) held fuel 41 [.slice A n c] = some (d, p) := by simpa [Value.cells] using hf
  rcases open_strings Tryd.underlying41 Tryd.underlying9 cells_str hf' with ⟨hcs, hx⟩ | ⟨a, len, cap, ss, hcs, _, hl, hm, hz, hx, hcell, hwz⟩
  · simp at hcs
    obtain ⟨rfl, rfl, rfl⟩ := hcs
    exact ⟨none, 0, 0, [], rfl, rfl, by omega, by simp [maxLen], by simp, fun j b h => by simp at h⟩
  · simp at hcs
    obtain ⟨rfl, rfl, rfl⟩ := hcs
    have hz' : ss.length = c := by simpa using hz
    refine ⟨some a, n, c, ss.take n, rfl, by rw [List.length_take]; omega, hl, hm, fun b hb => hwz b (List.mem_of_mem_take hb), fun j b hj => ?_⟩
    have hjn : j < (ss.take n).length := (List.getElem?_eq_some_iff.1 hj).1
    rw [List.length_take] at hjn
    obtain ⟨g, o, rfl⟩ := addr_plain (hcell 0 (by omega))
    refine ⟨g, o, rfl, ?_⟩
    have := hcell j (by omega)
    rw [addr_add] at this
    rw [this]
    rw [List.getElem?_take, if_pos (by omega)] at hj
    rw [List.getD, hj]; rfl
end

/-- The weight of a list of strings. -/
def wgtS (L : List ByteArray) : Nat := (L.map fun b => b.size).sum
theorem wgtS_next {L : List ByteArray} {k : Nat} {b : ByteArray} (h : L[k]? = some b) : wgtS (L.take (k + 1)) = wgtS (L.take k) + b.size := by
  rw [take_next h]; simp [wgtS]
theorem wgtS_mem {L : List ByteArray} {b : ByteArray} (h : b ∈ L) : b.size ≤ wgtS L := by
  induction L with
  | nil => simp at h
  | cons a L ih =>
    have e : wgtS (a :: L) = a.size + wgtS L := by simp [wgtS]
    rcases List.mem_cons.1 h with rfl | h
    · omega
    · have := ih h; omega
theorem wgtS_take_le (L : List ByteArray) (k : Nat) : wgtS (L.take k) ≤ wgtS L := by
  have ha : ∀ A B : List ByteArray, wgtS (A ++ B) = wgtS A + wgtS B := fun A B => by simp [wgtS]
  have e := ha (L.take k) (L.drop k)
  rw [List.take_append_drop] at e
  omega

theorem run_makeS (n : Nat) (hn : n ≤ 1048576) (w : World) :
    (Instr.makeSlice 41 (.int .i64 (n : Int)) (.int .i64 (n : Int))).run Tryd.prog w = .ok (.slice (some ⟨w.heap.size, 0, none⟩) n n) (w.alloc (.cells (Lib.cellsOf [] n) 9)) := by
  obtain ⟨i0, hi, hz0, hz1, hz2⟩ := infoS_parts
  have h := run_make (P := Tryd.prog) w 41 9 i0 (.string ByteArray.empty) Tryd.underlying41 hi hz0 .i64 .i64 (n : Int) (n : Int) (by omega) (Int.le_refl _) (by rw [hz2]; omega) (by omega)
  rw [h, Lib.cellsOf_nil]
  simp [Value.cells, hz1]
def noS : Value := .tuple #[.string ⟨#[]⟩, .bool false]
theorem specJoin_no (A : Option Addr) (cp n : Nat) (p : ByteArray) (w : World) (hn : n ≤ 1048576) (h : ¬ (p.size = 1 ∧ n ≠ 0)) :
    Calls Tryd.prog 38 #[.slice A n cp, .string p] w fun e w' => e = .returned noS ∧ Below w.heap.size w w' := by
  by_cases h1 : p.size = 1
  · have h2 : n = 0 := Decidable.byContradiction fun e => h ⟨h1, e⟩
    subst h2
    clear h
    go_enter Tryd.func38, Tryd.ntmps38
    go_wp2
    go_ret2
    exact ⟨rfl, Below.refl _ _⟩
  · have hz : ((p.size : Int) != 1) = true := by rw [bne_iff_ne]; omega
    clear h h1
    go_enter Tryd.func38, Tryd.ntmps38
    go_wp2
    go_ret2
    exact ⟨rfl, Below.refl _ _⟩
theorem implJoin_no (A : Option Addr) (cp n : Nat) (p : ByteArray) (w : World) (hn : n ≤ 1048576) (h : ¬ (p.size = 1 ∧ n ≠ 0)) :
    Calls Tryd.prog 37 #[.slice A n cp, .string p] w fun e w' => e = .returned noS ∧ Below w.heap.size w w' := by
  by_cases h2 : n = 0
  · subst h2
    clear h
    go_enter Tryd.func37, Tryd.ntmps37
    go_wp2
    go_ret2
    exact ⟨rfl, Below.refl _ _⟩
  · have hz : ((p.size : Int) != 1) = true := by rw [bne_iff_ne]; intro e; exact h ⟨by omega, h2⟩
    have hz2 : ((n : Int) == 0) = false := by rw [beq_eq_false_iff_ne]; omega
    clear h h2
    go_enter Tryd.func37, Tryd.ntmps37
    go_wp2
    go_ret2
    exact ⟨rfl, Below.refl _ _⟩
theorem join_two (L : List ByteArray) (p : ByteArray) (hl : L.length ≤ 1048576) (hz : ∀ b ∈ L, b.size ≤ 1048576) :
    ∃ (q : ByteArray) (b : Bool), (∀ A cp w, StrS w A L → Calls Tryd.prog 38 #[.slice A L.length cp, .string p] w fun e w' => e = .returned (.tuple #[.string q, .bool b]) ∧ Below w.heap.size w w') ∧
      (∀ A cp w, StrS w A L → L.length ≤ cp → Calls Tryd.prog 37 #[.slice A L.length cp, .string p] w fun e w' => e = .returned (.tuple #[.string q, .bool b]) ∧ Below w.heap.size w w') := by
  by_cases h : p.size = 1 ∧ L.length ≠ 0
  · obtain ⟨h1, h2⟩ := h
    obtain ⟨c, rfl⟩ := Lib.one_byte p h1
    have hne : L ≠ [] := fun e => h2 (by rw [e]; rfl)
    have hv : ∃ q b, jnV c L = .tuple #[.string q, .bool b] := by unfold jnV; split <;> exact ⟨_, _, rfl⟩
    obtain ⟨q, b, hv⟩ := hv
    exact ⟨q, b, fun A cp w hS => by rw [← hv]; exact specJoin_yes A cp L c w hS hne hl hz, fun A cp w hS hcp => by rw [← hv]; exact implJoin_yes A cp L c w hS hne hl hcp hz⟩
  · exact ⟨⟨#[]⟩, false, fun A cp w _ => specJoin_no A cp L.length p w hl h, fun A cp w _ _ => implJoin_no A cp L.length p w hl h⟩
end Go.Proofs.YtfpokpgkkjibfaaDoor
