/- What FnStrings walks over: numbers written and read, a text sealed, one byte of it changed. -/
import Derived.Test.YtfpokpgkkjibfaaDoorDrawN
import Derived.Test.YtfpokpgkkjibfaaDoorSealP
namespace Go.Proofs.YtfpokpgkkjibfaaDoor
open Go.ChangeShapes Go.WideShapes Go.ChangeAt Go.RowKit
open Go.ChangeMaps (open_string shut_string)

theorem rd_partsN (s : ByteArray) : ∃ m b, rdV s = .tuple #[.int .i64 m, .bool b] := by
  unfold rdV
  cases rdL s.data.toList with
  | none => exact ⟨_, _, rfl⟩
  | some n => exact ⟨_, _, rfl⟩
theorem fmt_partsN (n : Int) : ∃ s ok, fmtV n = .tuple #[.string s, .bool ok] ∧ s.size ≤ 1048576 ∧ ∃ m b, rdV s = .tuple #[.int .i64 m, .bool b] ∧ (ok = true → m = n ∧ b = true) := by
  unfold fmtV
  by_cases h : -999999 ≤ n ∧ n ≤ 999999
  · rw [if_pos h]
    refine ⟨itoaB n, true, rfl, by have := itoaB_len n (by omega) (by omega); omega, n, true, ?_, fun _ => ⟨rfl, rfl⟩⟩
    have e : (itoaB n).data.toList = Lib.itoa n := by simp [itoaB]
    unfold rdV
    rw [e, rd_fmt h.1 h.2]; rfl
  · rw [if_neg h]
    obtain ⟨m, b, e⟩ := rd_partsN ⟨#[]⟩
    exact ⟨⟨#[]⟩, false, rfl, by decide, m, b, e, fun h => by cases h⟩
theorem seal_partsN (x : ByteArray) : apV x = .tuple #[.string ⟨#[]⟩, .bool false] ∨
    ∃ y, apV x = .tuple #[.string y, .bool true] ∧ vfOk y ∧ headB y = x ∧ 1 ≤ y.size ∧ y.size ≤ 4000 ∧ ∀ (k : Nat) (a v : UInt8), y.data.toList[k]? = some a → v ≠ a → ¬ vfOk (mkB (y.data.toList.set k v)) := by
  unfold apV
  by_cases h : apOk x
  · rw [if_pos h]
    obtain ⟨h1, h2⟩ := vf_seal h
    refine .inr ⟨sealB x, rfl, h1, h2, by rw [sealB_size]; omega, h.2.2, fun k a v hk hv => ?_⟩
    obtain ⟨hlt, e⟩ := List.getElem?_eq_some_iff.1 hk
    refine vf_changed h (P := (sealB x).data.toList.take k) (R := (sealB x).data.toList.drop (k + 1)) (a := a) ?_ hv ?_
    · rw [← e, ← List.drop_eq_getElem_cons hlt, List.take_append_drop]
    · rw [mkB_list, List.set_eq_take_append_cons_drop, if_pos hlt]
  · rw [if_neg h]; exact .inl rfl
/-- A byte with some of its bits turned. -/
theorem xor_byte (a : UInt8) (m : Int) (h0 : 1 ≤ m) (h1 : m ≤ 255) : ∃ v : UInt8, bits .xor .u8 (a.toNat : Int) m = (v.toNat : Int) ∧ v ≠ a := by
  have e : bits .xor .u8 (a.toNat : Int) m = IntKind.u8.wrap ((BitVec.ofInt 8 a.toNat ^^^ BitVec.ofInt 8 m).toNat : Nat) := rfl
  have e2 : ∀ k : Nat, IntKind.u8.wrap (k : Int) = (k : Int) % 256 := fun k => by simp [IntKind.wrap, IntKind.bits, IntKind.signed]
  have ha : BitVec.ofInt 8 (a.toNat : Int) = a.toBitVec := by
    apply BitVec.eq_of_toNat_eq
    rw [BitVec.ofInt_natCast, BitVec.toNat_ofNat]
    have := a.toNat_lt
    show a.toNat % 256 = a.toNat
    omega
  refine ⟨⟨a.toBitVec ^^^ BitVec.ofInt 8 m⟩, ?_, ?_⟩
  · rw [e, e2, ha]
    have h := (a.toBitVec ^^^ BitVec.ofInt 8 m).isLt
    show (((a.toBitVec ^^^ BitVec.ofInt 8 m).toNat : Nat) : Int) % 256 = ((a.toBitVec ^^^ BitVec.ofInt 8 m).toNat : Int)
    omega
  · intro hv
    have h2 : a.toBitVec ^^^ BitVec.ofInt 8 m = a.toBitVec := congrArg UInt8.toBitVec hv
    have h3 : BitVec.ofInt 8 m = 0#8 := by
      have : a.toBitVec ^^^ (a.toBitVec ^^^ BitVec.ofInt 8 m) = a.toBitVec ^^^ a.toBitVec := by rw [h2]
      rwa [← BitVec.xor_assoc, BitVec.xor_self, BitVec.zero_xor] at this
    obtain ⟨k, rfl⟩ := Int.eq_ofNat_of_zero_le (show 0 ≤ m by omega)
    have h4 := congrArg BitVec.toNat h3
    rw [BitVec.ofInt_natCast, BitVec.toNat_ofNat] at h4
    simp at h4
    omega
theorem u8_in (x : Int) (h0 : 0 ≤ x) (h1 : x ≤ 255) : IntKind.u8.wrap x = x := by
  have e : IntKind.u8.wrap x = x % 256 := by simp [IntKind.wrap, IntKind.bits, IntKind.signed]
  rw [e]; omega
/-- Block g holds, from its head, the bytes l, free. -/
def BytR (W : World) (g : Nat) (l : List UInt8) : Prop := ∀ j a, l[j]? = some a → W.cell? ⟨g, j, none⟩ = some (.int .u8 (a.toNat : Int)) ∧ W.frozen? ⟨g, j, none⟩ = false
theorem BytR.below {W W1 : World} {g : Nat} {l : List UInt8} (h : BytR W g l) (hb : Below W.heap.size W W1) : BytR W1 g l := fun j a ha =>
  ⟨keep_cell hb (h j a ha).1, keep_froz hb (by rw [(h j a ha).1]; rfl) (h j a ha).2⟩
theorem BytR.new (w : World) (s : ByteArray) (cap : Nat) (e : TypeId) : BytR (w.drew.alloc (.cells (bytesRow s cap) e ((bytesRow s cap).size, (bytesRow s cap).size + 1))) w.heap.size s.data.toList := fun j a ha => by
  obtain ⟨hj, e1⟩ := List.getElem?_eq_some_iff.1 ha
  rw [Array.length_toList] at hj
  have h1 := bytesRow_at s cap j hj
  refine ⟨?_, ?_⟩
  · have h2 := World.cell?_alloc_mark w.drew (bytesRow s cap) e ((bytesRow s cap).size, (bytesRow s cap).size + 1) j
    have h3 : s.data[j] = a := by rw [← e1]; simp
    rw [h1, h3] at h2
    exact h2
  · have h2 := World.frozen?_alloc_mark w.drew (bytesRow s cap) e (bytesRow s cap).size ((bytesRow s cap).size + 1) j
    obtain ⟨hlt, _⟩ := Array.getElem?_eq_some_iff.1 h1
    rw [decide_eq_false (show ¬ (bytesRow s cap).size ≤ j by omega), Bool.false_and] at h2
    exact h2
theorem BytR.set {W : World} {g : Nat} {l : List UInt8} (h : BytR W g l) (k : Nat) (v : UInt8) :
    ∀ j (hj : j < (l.set k v).length), ((W.setCell ⟨g, k, none⟩ (.int .u8 (v.toNat : Int))).drew.cell? ((⟨g, 0, none⟩ : Addr).add j)) = some (.int .u8 (((l.set k v)[j]).toNat : Int)) := by
  intro j hj
  rw [addr_add, Nat.zero_add]
  have hj2 : j < l.length := by rwa [List.length_set] at hj
  show (W.setCell ⟨g, k, none⟩ (.int .u8 (v.toNat : Int))).cell? ⟨g, j, none⟩ = _
  by_cases e : j = k
  · subst e
    rw [List.getElem_set_self]
    exact World.cell?_setCell_same _ _ _ (h j _ (List.getElem?_eq_getElem hj2)).1
  · rw [List.getElem_set_ne (fun h => e h.symm)]
    exact (World.cell?_setCell_other _ _ _ _ (by simp [e])).trans (h j _ (List.getElem?_eq_getElem hj2)).1
theorem BytR.text {W : World} {g : Nat} {y : ByteArray} (h : BytR W g y.data.toList) (k : Nat) (v : UInt8) (cap : Nat) :
    (convert 22 9 (.slice (some ⟨g, 0, none⟩) y.size cap)).run Tryd.prog (W.setCell ⟨g, k, none⟩ (.int .u8 (v.toNat : Int))).drew = .ok (.string (mkB (y.data.toList.set k v))) (W.setCell ⟨g, k, none⟩ (.int .u8 (v.toNat : Int))).drew := by
  have h2 := run_convert_bytes_back (P := Tryd.prog) (W.setCell ⟨g, k, none⟩ (.int .u8 (v.toNat : Int))).drew 22 9 5 ⟨g, 0, none⟩ cap (y.data.toList.set k v) Tryd.underlying22 Tryd.underlying5 Tryd.underlying9 (h.set k v)
  rw [List.length_set, ← Lib.size_eq] at h2
  exact h2
end Go.Proofs.YtfpokpgkkjibfaaDoor
