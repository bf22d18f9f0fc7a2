/- SplitString: what the reference's and the program's return. -/
import Derived.Test.YtfpokpgkkjibfaaDoorStrL
namespace Go.Proofs.YtfpokpgkkjibfaaDoor
open Go.ChangeShapes Go.WideShapes Go.ChangeAt Go.RowKit
open Go.ChangeMaps (open_string shut_string)

/-- A call that hands back a list of strings, new or nil, and a bool. -/
def RetSB (w : World) (L : List ByteArray) (b : Bool) (e : Ending) (w' : World) : Prop := ∃ A c, e = .returned (.tuple #[.slice A L.length c, .bool b]) ∧ OwnSS w' w.heap.size A L ∧ Below w.heap.size w w'
theorem own_noneS (w : World) (B : Nat) : OwnSS w B none [] := .inl ⟨rfl, rfl⟩

set_option maxRecDepth 100000 in
theorem specSplit_yes (s : ByteArray) (c : UInt8) (w : World) (hs : s.size ≤ 4000) :
    Calls Tryd.prog 29 #[.string s, .string ⟨#[c]⟩] w (RetSB w (partsB c s) true) := by
  have hS := Lib.hid (fun w => l1Split_any s c w (by omega))
  generalize partsB c s = L at *
  go_enter Tryd.func29, Tryd.ntmps29
  go_wp2_with fail
  refine (hS.out _).mono ?_
  rintro e w1 ⟨A, c1, rfl, hO, hb1⟩
  go_wp2
  go_ret2
  exact ⟨A, c1, rfl, hO, hb1⟩
set_option maxRecDepth 100000 in
theorem specSplit_no (s p : ByteArray) (w : World) (hs : s.size ≤ 1048576) (hp : p.size ≤ 1048576) (h : ¬ (p.size = 1 ∧ s.size ≤ 4000)) :
    Calls Tryd.prog 29 #[.string s, .string p] w (RetSB w [] false) := by
  by_cases h1 : p.size = 1
  · have h2 : ¬ s.size ≤ 4000 := fun e => h ⟨h1, e⟩
    clear h
    go_enter Tryd.func29, Tryd.ntmps29
    go_wp2
    go_ret2
    exact ⟨_, 0, rfl, .inr ⟨w.heap.size, rfl, Nat.le_refl _, #[], heap_alloc_new w _, [], rfl⟩, by (repeat (first | with_reducible exact Below.refl _ _ | with_reducible assumption | with_reducible refine Below.alloc' ?_ ?_ _ | with_reducible refine Below.setCell' ?_ ?_ _ | with_reducible refine Below.drewN' ?_ _ | with_reducible refine Below.drew ?_ | with_reducible refine Below.transA ?_ (by assumption) ?_ | omega | (focus (simp; done)) | (focus (simp; omega))))⟩
  · clear h
    go_enter Tryd.func29, Tryd.ntmps29
    go_wp2
    go_ret2
    exact ⟨_, 0, rfl, .inr ⟨w.heap.size, rfl, Nat.le_refl _, #[], heap_alloc_new w _, [], rfl⟩, by (repeat (first | with_reducible exact Below.refl _ _ | with_reducible assumption | with_reducible refine Below.alloc' ?_ ?_ _ | with_reducible refine Below.setCell' ?_ ?_ _ | with_reducible refine Below.drewN' ?_ _ | with_reducible refine Below.drew ?_ | with_reducible refine Below.transA ?_ (by assumption) ?_ | omega | (focus (simp; done)) | (focus (simp; omega))))⟩
set_option maxRecDepth 100000 in
theorem implSplit_yes (s : ByteArray) (c : UInt8) (w : World) (hs : s.size ≤ 4000) (hM : MaxC w) :
    Calls Tryd.prog 30 #[.string s, .string ⟨#[c]⟩] w (RetSB w (partsB c s) true) := by
  have hS : Hid (∀ w, MaxC w → Calls Tryd.prog 65 #[.string s, .string ⟨#[c]⟩] w (RetS w (partsB c s))) := by
    refine Lib.hid fun w ⟨m, hm⟩ => (Tryd.strings_Split s ⟨#[c]⟩ m w (by omega) hm (Nat.le_refl 1)).mono ?_
    rintro e w' ⟨rfl, rfl⟩
    refine ⟨some ⟨w.heap.size, 0, none⟩, (partsB c s).length, by rw [countB_parts], .inr ⟨w.heap.size, rfl, Nat.le_refl _, _, heap_alloc_new w _, [], ?_⟩, by (repeat (first | with_reducible exact Below.refl _ _ | with_reducible assumption | with_reducible refine Below.alloc' ?_ ?_ _ | with_reducible refine Below.setCell' ?_ ?_ _ | with_reducible refine Below.drewN' ?_ _ | with_reducible refine Below.drew ?_ | with_reducible refine Below.transA ?_ (by assumption) ?_ | omega | (focus (simp; done)) | (focus (simp; omega))))⟩
    rw [splitB_parts]
    simp [strs]
  generalize partsB c s = L at *
  go_enter Tryd.func30, Tryd.ntmps30
  go_wp2_with fail
  refine (hS.out _ hM).mono ?_
  rintro e w1 ⟨A, c1, rfl, hO, hb1⟩
  go_wp2
  go_ret2
  exact ⟨A, c1, rfl, hO, hb1⟩
set_option maxRecDepth 100000 in
theorem implSplit_no (s p : ByteArray) (w : World) (hs : s.size ≤ 1048576) (hp : p.size ≤ 1048576) (h : ¬ (p.size = 1 ∧ s.size ≤ 4000)) :
    Calls Tryd.prog 30 #[.string s, .string p] w (RetSB w [] false) := by
  by_cases h2 : s.size ≤ 4000
  · have h1 : ¬ p.size = 1 := fun e => h ⟨e, h2⟩
    have hz : ((p.size : Int) != 1) = true := by rw [bne_iff_ne]; omega
    clear h h1
    go_enter Tryd.func30, Tryd.ntmps30
    go_wp2
    go_ret2
    exact ⟨_, 0, rfl, own_noneS _ _, Below.refl _ _⟩
  · clear h
    go_enter Tryd.func30, Tryd.ntmps30
    go_wp2
    go_ret2
    exact ⟨_, 0, rfl, own_noneS _ _, Below.refl _ _⟩
end Go.Proofs.YtfpokpgkkjibfaaDoor
