/- Contracts: the reference's draws of arguments for the laws of strings. -/
import Derived.Test.YtfpokpgkkjibfaaDoorDrawS
import Derived.Test.YtfpokpgkkjibfaaDoorJoinZ
import Derived.Laws.IdiomStrings
import Derived.Laws.MakeOwn
namespace Go.Proofs.YtfpokpgkkjibfaaDoor
open Go.ChangeShapes Go.WideShapes Go.ChangeAt Go.RowKit
open Go.ChangeMaps (open_string shut_string)

theorem vBig_any (C : Option Addr) (n cc : Nat) (w : World) : Calls Tryd.prog 12 #[.slice C n cc] w fun e w' => e = .returned (.bool (decide (65536 < n))) ∧ w' = w := by
  have h : decide ((n : Int) > 65536) = decide (65536 < n) := by apply decide_eq_decide.2; omega
  go_enter Tryd.func12, Tryd.ntmps12
  go_wp2
  go_ret
  exact ⟨by simp, rfl⟩
set_option maxHeartbeats 1000000 in
theorem drawLess_any (C : Option Addr) (n cc : Nat) (w : World) (hB : Byt w C n) (hn : n ≤ 1000000) :
    Calls Tryd.prog 39 #[.slice C n cc] w fun e w' => ∃ a b : ByteArray, a.size ≤ 16 ∧ b.size ≤ 16 ∧ e = .returned (.tuple #[.string a, .string b]) ∧ Below w.heap.size w w' := by
  have hne : ∀ b o, 0 < n → C = some ⟨b, o, none⟩ → b ≠ w.heap.size := fun b o h0 e => by have := byt_ltS hB h0 e; omega
  have HA := Lib.hid (fun W m (h : CurB W w.heap.size C n cc m) (hb : Byt W C n) (hm : m ≤ 1000) => any1_draw W h hb hne (by omega) hn)
  have HK := Lib.hid (fun W W' (hb : Byt W C n) (hk : KeptBut W W' w.heap.size w.heap.size) => hb.kept hk hne)
  have hc := cur_newS w C n cc
  have hw : Below w.heap.size w (w.alloc (.cells #[.slice C n cc, .int .i64 0, .int .u64 0] 60)) := (Below.refl _ _).alloc (Nat.le_refl _) _
  have hB2 := hB.below hw
  clear hne hB hn
  go_enter Tryd.func39, Tryd.ntmps39
  go_wp2_with fail
  refine (HA.out _ _ hc hB2 (by omega)).mono ?_
  rintro e1 w1 ⟨a, ha, rfl, hc1, hk1⟩
  replace hw := hk1.below hw (by omega) (by omega)
  replace hB2 := HK.out _ _ hB2 hk1
  clear hc hk1
  go_wp2_with fail
  refine (HA.out _ _ hc1 hB2 (by omega)).mono ?_
  rintro e1 w2 ⟨b, hb, rfl, hc2, hk2⟩
  replace hw := hk2.below hw (by omega) (by omega)
  clear hc1 hk2 hB2
  go_wp2
  go_ret2
  exact ⟨a, b, ha, hb, rfl, hw⟩
def sepL : List ByteArray := [⟨#[44]⟩, ⟨#[44]⟩, ⟨#[32]⟩, ⟨#[]⟩, ⟨#[44, 44]⟩]
theorem sep_small : ∀ b ∈ sepL, b.size ≤ 2 := by decide
set_option maxHeartbeats 1000000 in
theorem drawSplit_any (C : Option Addr) (n cc : Nat) (w : World) (hB : Byt w C n) (hn : n ≤ 1000000) :
    Calls Tryd.prog 35 #[.slice C n cc] w fun e w' => ∃ a b : ByteArray, a.size ≤ 16 ∧ b.size ≤ 2 ∧ e = .returned (.tuple #[.string a, .string b]) ∧ Below w.heap.size w w' := by
  have hne : ∀ b o, 0 < n → C = some ⟨b, o, none⟩ → b ≠ w.heap.size := fun b o h0 e => by have := byt_ltS hB h0 e; omega
  have HA := Lib.hid (fun W m (h : CurB W w.heap.size C n cc m) (hb : Byt W C n) (hm : m ≤ 1000) => any1_draw W h hb hne (by omega) hn)
  have HF := Lib.hid (fun A c L W m (h : CurB W w.heap.size C n cc m) (hb : Byt W C n) (hm : m ≤ 1000) => of_draw A c L W h hb hne (by omega) hn)
  have HK := Lib.hid (fun W W' (hb : Byt W C n) (hk : KeptBut W W' w.heap.size w.heap.size) => hb.kept hk hne)
  have hc := cur_newS w C n cc
  have hw : Below w.heap.size w (w.alloc (.cells #[.slice C n cc, .int .i64 0, .int .u64 0] 60)) := (Below.refl _ _).alloc (Nat.le_refl _) _
  have hB2 := hB.below hw
  clear hne hB hn
  go_enter Tryd.func35, Tryd.ntmps35
  go_wp2_with fail
  refine (HA.out _ _ hc hB2 (by omega)).mono ?_
  rintro e1 w1 ⟨a, ha, rfl, hc1, hk1⟩
  replace hw := hk1.below hw (by omega) (by omega)
  replace hB2 := HK.out _ _ hB2 hk1
  have hg1 := hc1.lt
  clear hc hk1
  have hb0 : Below w1.heap.size w1 (w1.alloc (.cells (strs sepL).toArray 9)) := (Below.refl _ _).alloc (Nat.le_refl _) _
  have HP := Lib.hid (HF.out (some ⟨w1.heap.size, 0, none⟩) 5 sepL (w1.alloc (.cells (strs sepL).toArray 9)) _ (hc1.below hb0) (hB2.below hb0) (by omega) (list_StrS w1 sepL) (fun b o e => by injection e with e; injection e with e; omega) ⟨by decide, by decide⟩)
  replace hw := keep_below hb0 hw
  clear hc1 hb0 HF HA HK hB2
  go_wp2_with fail
  refine HP.out.mono ?_
  rintro e1 w2 ⟨b, hb, rfl, hd⟩
  replace hw := hd.2.below hw (by omega) (by omega)
  clear HP
  go_wp2
  go_ret2
  exact ⟨a, b, ha, sep_small b hb, rfl, hw⟩
theorem CurB.grown {W w1 : World} {g n cc m : Nat} {C : Option Addr} {row : Option Nat} (h : CurB W g C n cc m) (hg : W.grownBy w1 row) (hr : row ≠ some g) : CurB w1 g C n cc m := by
  have hlt := h.lt
  obtain ⟨k, sd, hh, hk⟩ := h
  exact ⟨k, sd, (hg.block g hlt (fun e => hr e.symm)).trans hh, hk⟩
theorem own_kept {w w' : World} {B size n g : Nat} {e : TypeId} {v : Value} {xs : List Value} (h : w.ownsRow B e size v n xs) (hk : KeptBut w w' g g) (hg : g < B) : w'.ownsRow B e size v n xs :=
  h.kept (row := some g) ⟨hk.os, hk.tape, hk.output, hk.size, fun k h1 h2 => hk.block k h1 (fun e => h2 (by rw [e])) (fun e => h2 (by rw [e]))⟩ (by
    have := fun e => (h.lt g e).1
    cases hv : v.ownBlock with
    | none => simp
    | some b => right; intro e; rw [hv] at this; have := this e; omega)
theorem infoB_parts : ∃ i0, Tryd.prog.info? 5 = some i0 ∧ i0.zero = some (.int .u8 0) ∧ i0.size = 1 ∧ i0.bytes = 1 := by
  have h : (Tryd.prog.info? 5).map (fun i => (i.zero, i.size, i.bytes)) = some (some (.int .u8 0), 1, 1) := by kernel_rfl
  cases hi : Tryd.prog.info? 5 with
  | none => rw [hi] at h; cases h
  | some i => rw [hi] at h; simp at h; exact ⟨i, rfl, h.1, h.2.1, h.2.2⟩
theorem run_makeBs (m : Nat) (hm : m ≤ 1048576) (w : World) :
    (Instr.makeSlice 22 (.int .i64 (m : Int)) (.int .i64 (m : Int))).run Tryd.prog w = .ok (.slice (some ⟨w.heap.size, 0, none⟩) m m) (w.alloc (.cells (madeCells #[.int .u8 0] m) 5)) := by
  obtain ⟨i0, hi, hz0, hz1, hz2⟩ := infoB_parts
  have h := run_make (P := Tryd.prog) w 22 5 i0 (.int .u8 0) Tryd.underlying22 hi hz0 .i64 .i64 (m : Int) (m : Int) (by omega) (Int.le_refl _) (by rw [hz2]; omega) (by omega)
  rw [h]
  simp [Value.cells, hz1]
theorem run_zerosB (m : Nat) (w : World) :
    (convert 22 9 (.slice (some ⟨w.heap.size, 0, none⟩) m m)).run Tryd.prog (w.alloc (.cells (madeCells #[.int .u8 0] m) 5)) = .ok (.string (mkB (List.replicate m 0))) (w.alloc (.cells (madeCells #[.int .u8 0] m) 5)) := by
  have h := run_convert_bytes_back (P := Tryd.prog) (w.alloc (.cells (madeCells #[.int .u8 0] m) 5)) 22 9 5 ⟨w.heap.size, 0, none⟩ m (List.replicate m 0) Tryd.underlying22 Tryd.underlying5 Tryd.underlying9 (by
    intro j hj
    rw [List.length_replicate] at hj
    have e := cell_of_row (w.alloc (.cells (madeCells #[.int .u8 0] m) 5)) w.heap.size j _ _ _ (heap_alloc_new w _)
    rw [addr_add, Nat.zero_add, e]
    simp [madeCells, hj, Nat.mod_one])
  rw [List.length_replicate] at h
  exact h
end Go.Proofs.YtfpokpgkkjibfaaDoor
