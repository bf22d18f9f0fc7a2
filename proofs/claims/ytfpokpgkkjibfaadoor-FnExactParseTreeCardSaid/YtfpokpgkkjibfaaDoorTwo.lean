/- A tree under construction: a block with two own lists, each apart from the other and from the block. -/
import Derived.Test.YtfpokpgkkjibfaaDoorRetT
namespace Go.Proofs.YtfpokpgkkjibfaaDoor
open Go.ChangeShapes Go.WideShapes Go.ChangeAt Go.RowKit

structure Two (w : World) (B gT : Nat) (va vb : Value) (n m : Nat) (xs ys : List Int) : Prop where
  blk : BlkT w gT va vb
  own0 : w.ownsRow B 3 1 va n (i64s xs)
  own1 : w.ownsRow B 3 1 vb m (i64s ys)
  ne0 : va.ownBlock ≠ some gT
  ne1 : vb.ownBlock ≠ some gT
  ap : ∀ g, va.ownBlock = some g → vb.ownBlock ≠ some g
theorem own_keptv {w w' : World} {B size n : Nat} {e : TypeId} {v : Value} {xs : List Value} {row : Option Nat} (h : w.ownsRow B e size v n xs) (hg : w.grownBy w' row) (hr : ∀ g, v.ownBlock = some g → row ≠ some g) : w'.ownsRow B e size v n xs :=
  h.kept hg (by
    cases hv : v.ownBlock with
    | none => exact .inl rfl
    | some g => exact .inr fun e => hr g hv e.symm)
theorem own_slice {w : World} {B size n : Nat} {e : TypeId} {v : Value} {xs : List Value} (h : w.ownsRow B e size v n xs) : ∃ A c, v = .slice A n c := by
  rcases h.2 with ⟨rfl, h0⟩ | ⟨g, cap, cur, rfl, _⟩
  · exact ⟨none, 0, by rw [h0]⟩
  · exact ⟨_, _, rfl⟩
theorem grown_set1 (w : World) (g j : Nat) (v : Value) : w.grownBy (w.setCell ⟨g, j, none⟩ v) (some g) :=
  ⟨rfl, rfl, rfl, by simp [World.setCell], fun k _ hne => Below.heap_setCell _ _ _ _ (fun e => hne (by rw [e]))⟩
section
variable {w w1 : World} {B gT n m : Nat} {va vb v' : Value} {xs ys zs : List Int}
theorem Two.below (h : Two w B gT va vb n m xs ys) (hb : Below w.heap.size w w1) : Two w1 B gT va vb n m xs ys :=
  ⟨h.blk.below hb, own_below h.own0 hb, own_below h.own1 hb, h.ne0, h.ne1, h.ap⟩
theorem Two.new0 {o : Obj} (h : Two w B gT va vb n m xs ys) (hat : v'.ownBlock = va.ownBlock ∨ v'.ownBlock = some (w.alloc o).heap.size) : v'.ownBlock ≠ some gT ∧ ∀ g, v'.ownBlock = some g → vb.ownBlock ≠ some g := by
  have hlt := h.blk.lt
  rcases hat with e | e
  · exact ⟨by rw [e]; exact h.ne0, fun g hg => h.ap g (by rw [← e]; exact hg)⟩
  · have hs : (w.alloc o).heap.size = w.heap.size + 1 := by simp
    refine ⟨by rw [e, hs]; intro e2; injection e2 with e2; omega, fun g hg e2 => ?_⟩
    rw [e, hs] at hg
    injection hg with hg
    have := (h.own1.lt g e2).2
    omega
theorem Two.new1 {o : Obj} (h : Two w B gT va vb n m xs ys) (hat : v'.ownBlock = vb.ownBlock ∨ v'.ownBlock = some (w.alloc o).heap.size) : v'.ownBlock ≠ some gT ∧ ∀ g, va.ownBlock = some g → v'.ownBlock ≠ some g := by
  have hlt := h.blk.lt
  rcases hat with e | e
  · exact ⟨by rw [e]; exact h.ne1, fun g hg => by rw [e]; exact h.ap g hg⟩
  · have hs : (w.alloc o).heap.size = w.heap.size + 1 := by simp
    refine ⟨by rw [e, hs]; intro e2; injection e2 with e2; omega, fun g hg e2 => ?_⟩
    rw [e, hs] at e2
    injection e2 with e2
    have := (h.own0.lt g hg).2
    omega
theorem Two.blk0 {o : Obj} (h : Two w B gT va vb n m xs ys) (hg : (w.alloc o).grownBy w1 va.ownBlock) : BlkT w1 gT va vb := (h.blk.alloc o).grown hg h.ne0
theorem Two.blk1 {o : Obj} (h : Two w B gT va vb n m xs ys) (hg : (w.alloc o).grownBy w1 vb.ownBlock) : BlkT w1 gT va vb := (h.blk.alloc o).grown hg h.ne1
theorem Two.put0 {o : Obj} {k : Nat} (h : Two w B gT va vb n m xs ys) (hg : (w.alloc o).grownBy w1 va.ownBlock) (hat : v'.ownBlock = va.ownBlock ∨ v'.ownBlock = some (w.alloc o).heap.size) (ho : w1.ownsRow B 3 1 v' k (i64s zs)) :
    Two (w1.setCell ⟨gT, 0, none⟩ v') B gT v' vb k m zs ys := by
  obtain ⟨h1, h2⟩ := h.new0 hat
  refine ⟨(h.blk0 hg).set0 v', own_keptv ho (grown_set1 _ _ _ _) fun g e e2 => h1 (by rw [e, ← e2]), own_keptv (own_keptv (h.own1.alloc o) hg fun g e e2 => h.ap g e2 e) (grown_set1 _ _ _ _) fun g e e2 => h.ne1 (by rw [e, ← e2]), h1, h.ne1, h2⟩
theorem Two.put1 {o : Obj} {k : Nat} (h : Two w B gT va vb n m xs ys) (hg : (w.alloc o).grownBy w1 vb.ownBlock) (hat : v'.ownBlock = vb.ownBlock ∨ v'.ownBlock = some (w.alloc o).heap.size) (ho : w1.ownsRow B 3 1 v' k (i64s zs)) :
    Two (w1.setCell ⟨gT, 1, none⟩ v') B gT va v' n k xs zs := by
  obtain ⟨h1, h2⟩ := h.new1 hat
  refine ⟨(h.blk1 hg).set1 v', own_keptv (own_keptv (h.own0.alloc o) hg fun g e e2 => h.ap g e e2) (grown_set1 _ _ _ _) fun g e e2 => h.ne0 (by rw [e, ← e2]), own_keptv ho (grown_set1 _ _ _ _) fun g e e2 => h1 (by rw [e, ← e2]), h.ne0, h1, h2⟩
/-- What stands below the base is kept. -/
theorem below_put {u : World} {row : Option Nat} {o : Obj} {j : Nat} (hw : Below u.heap.size u w) (hg : (w.alloc o).grownBy w1 row) (hr : ∀ g, row = some g → u.heap.size ≤ g) (hT : u.heap.size ≤ gT) : Below u.heap.size u (w1.setCell ⟨gT, j, none⟩ v') :=
  Below.setCell' (p := ⟨gT, j, none⟩) hT (Below.grown (hw.alloc hw.size _) hg (hw.alloc hw.size _).size hr) _
theorem Two.row0 (h : Two w B gT va vb n m xs ys) {u : World} (hu : u.heap.size ≤ B) : ∀ g, va.ownBlock = some g → u.heap.size ≤ g := fun g e => Nat.le_trans hu (h.own0.lt g e).1
theorem Two.row1 (h : Two w B gT va vb n m xs ys) {u : World} (hu : u.heap.size ≤ B) : ∀ g, vb.ownBlock = some g → u.heap.size ≤ g := fun g e => Nat.le_trans hu (h.own1.lt g e).1
/-- The two lists as slices. -/
theorem Two.forms (h : Two w B gT va vb n m xs ys) : ∃ A c A' c', va = .slice A xs.length c ∧ vb = .slice A' ys.length c' ∧ OwnS w B A xs ∧ OwnS w B A' ys ∧ (∀ g g' : Nat, A = some ⟨g, 0, none⟩ → A' = some ⟨g', 0, none⟩ → g ≠ g') ∧ xs.length = n ∧ ys.length = m := by
  obtain ⟨A, c, rfl, h0⟩ := own_form h.own0
  obtain ⟨A', c', rfl, h1⟩ := own_form h.own1
  refine ⟨A, c, A', c', rfl, rfl, h0, h1, fun g g' e1 e2 e => ?_, by have := h.own0.1; simpa [i64s] using this, by have := h.own1.1; simpa [i64s] using this⟩
  subst e1 e2
  exact h.ap g rfl (by rw [e]; rfl)
end
end Go.Proofs.YtfpokpgkkjibfaaDoor
