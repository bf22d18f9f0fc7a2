/- Lemmas on memory: new blocks, lists of ints in memory. -/
import Derived.Laws.Rows
import Derived.Laws.OwnMore
import Derived.Maps.AppendAt
import Derived.Deep.AppendLies
import Derived.Deep.Draws
import Derived.ArgAppend
import Derived.Laws.IdiomCopy
import Derived.StillTailTactics
import Derived.Deep.RegionHeld3
import Derived.Test.YtgccidkkfalaeaaGreatDoorMgTr5
namespace Go.Proofs.YtgccidkkfalaeaaGreatDoor
open Go.ChangeShapes Go.WideShapes Go.ChangeAt Go.RowKit

theorem cell_new (W : World) (cs : Array Value) (t : TypeId) (i g : Nat) (hg : g = W.heap.size) : (W.alloc (.cells cs t)).cell? ⟨g, i, none⟩ = cs[i]? := by
  subst hg
  exact cell_of_row _ _ _ _ _ _ (heap_alloc_new W _)
/-- What was known of a cell is known behind a call that leaves old memory alone. -/
theorem keep_cell {W w1 : World} {p : Addr} {v : Value} (hb : Below W.heap.size W w1) (h : W.cell? p = some v) : w1.cell? p = some v :=
  (hb.cell (World.block_lt_of_cell? W p h)).trans h
theorem keep_below {w W w1 : World} (hb : Below W.heap.size W w1) (h : Below w.heap.size w W) : Below w.heap.size w w1 := h.trans (hb.mono h.size)
theorem wpAnyH_name {P : Program} {md : Region.Mode} {ops : Array Oper} {Q : Exit → Act → World → Prop} {S : World → Prop} {fuel : Nat} {listed : Array Bool} {a : Act} {w : World} (hS : S w)
    (h : ∀ wz, S wz → wz = w → wpAnyH P md ops Q S fuel listed a wz) : wpAnyH P md ops Q S fuel listed a w := h w hS rfl
theorem frozen_new (W : World) (cs : Array Value) (t : TypeId) (i g : Nat) (hg : g = W.heap.size) : (W.alloc (.cells cs t)).frozen? ⟨g, i, none⟩ = false := by
  subst hg
  have h : (W.alloc (.cells cs t)).heap[W.heap.size]? = some (.cells cs t (0, 0)) := heap_alloc_new W _
  unfold World.frozen?
  rw [h]
  simp
/-- A new block of two cells, behind a call. -/
theorem keep_new2 {W w1 : World} {u v : Value} {t : TypeId} (hb : Below (W.alloc (.cells #[u, v] t)).heap.size (W.alloc (.cells #[u, v] t)) w1) :
    w1.cell? ⟨W.heap.size, 0, none⟩ = some u ∧ w1.cell? ⟨W.heap.size, 1, none⟩ = some v ∧ w1.frozen? ⟨W.heap.size, 0, none⟩ = false ∧ w1.frozen? ⟨W.heap.size, 1, none⟩ = false := by
  refine ⟨keep_cell hb (cell_new _ _ _ _ _ rfl), keep_cell hb (cell_new _ _ _ _ _ rfl), ?_, ?_⟩
  · rw [hb.frozen (by simp)]; exact frozen_new _ _ _ _ _ rfl
  · rw [hb.frozen (by simp)]; exact frozen_new _ _ _ _ _ rfl
theorem keep_two {W w1 : World} {u v : Value} {g : Nat} (hb : Below W.heap.size W w1) (h : W.cell? ⟨g, 0, none⟩ = some u ∧ W.cell? ⟨g, 1, none⟩ = some v ∧ W.frozen? ⟨g, 0, none⟩ = false ∧ W.frozen? ⟨g, 1, none⟩ = false) :
    w1.cell? ⟨g, 0, none⟩ = some u ∧ w1.cell? ⟨g, 1, none⟩ = some v ∧ w1.frozen? ⟨g, 0, none⟩ = false ∧ w1.frozen? ⟨g, 1, none⟩ = false := by
  have hg : g < W.heap.size := World.block_lt_of_cell? W _ h.1
  exact ⟨keep_cell hb h.1, keep_cell hb h.2.1, (hb.frozen (p := ⟨g, 0, none⟩) hg).trans h.2.2.1, (hb.frozen (p := ⟨g, 1, none⟩) hg).trans h.2.2.2⟩
theorem keep_some {W w1 : World} {p : Addr} (hb : Below W.heap.size W w1) (h : (W.cell? p).isSome = true) : (w1.cell? p).isSome = true := by
  obtain ⟨v, hv⟩ := Option.isSome_iff_exists.1 h
  rw [keep_cell hb hv]; rfl
theorem keep_froz {W w1 : World} {p : Addr} (hb : Below W.heap.size W w1) (h : (W.cell? p).isSome = true) (hf : W.frozen? p = false) : w1.frozen? p = false := by
  obtain ⟨v, hv⟩ := Option.isSome_iff_exists.1 h
  rw [hb.frozen (World.block_lt_of_cell? W p hv)]; exact hf
section
variable {P : Program} (w : World)
/-- The elder elements of an own slice are as they were. -/
def Elder (w w' : World) (v : Value) (k : Nat) : Prop := ∀ g n cap, v = .slice (some ⟨g, 0, none⟩) n cap → ∀ j, j < k → w'.cell? ⟨g, j, none⟩ = w.cell? ⟨g, j, none⟩
theorem run_append_elder (base : Nat) (t ty e : TypeId) (i : TypeInfo) (z : Value) (size bytes : Nat) (ht : P.underlying t = some (.slice e)) (hi : P.info? e = some i) (hz : i.zero = some z)
    (hsize : i.size = size) (hby : i.bytes = bytes) (hzs : z.cells.size = size) (hsz : 0 < size)
    (v : Value) (n : Nat) (xs : List Value) (hown : w.ownsRow base e size v n xs)
    (a : Addr) (m c : Nat) (news : List Value) (hl : news.length = m * size) (hnews : ∀ j u, news[j]? = some u → w.cell? (a.add j) = some u) (h1 : ∀ u ∈ news, u.oneCell' = true)
    (h63 : n + m ≤ maxLen) (hbytes : (n + m) * bytes ≤ 140737488355328) (hbase : base ≤ w.heap.size) :
    ∃ v' w', (Builtin.append_ #[t, t] ty #[v, .slice (some a) m c]).run P w = .ok v' w' ∧ w'.ownsRow base e size v' (n + m) (xs ++ news) ∧ w.grownBy w' v.ownBlock ∧
      (v'.ownBlock = v.ownBlock ∨ v'.ownBlock = some w.heap.size) ∧ Elder w w' v (n * size) := by
  obtain ⟨v', w', hr, h2, h3, _, h5⟩ := run_append_own_at (P := P) w base t ty e i z size bytes ht hi hz hsize hby hzs hsz v n xs hown a m c news hl hnews h1 h63 hbytes hbase
  refine ⟨v', w', hr, h2, h3, h5, ?_⟩
  intro g n' cap hv j hj
  have hown' := hown
  rcases hown.2 with ⟨hv0, h0⟩ | ⟨g', cap', cur, hv', hb, hg, hnc, hcm, hcs, htk⟩
  · subst h0; simp at hj
  · rw [hv] at hv'
    injection hv' with e1 e2 e3
    injection e1 with e1
    injection e1 with e1
    subst e1; subst e2; subst e3
    by_cases hroom : n' + m ≤ cap
    · have hcell : ∀ q, q < cap * size → (w.cell? ⟨g, q, none⟩).isSome = true := fun q hq => by
        rw [cell_of_row _ _ _ _ _ _ hg, Array.getElem?_eq_getElem (by omega)]; rfl
      have hfz : ∀ q, w.frozen? ⟨g, q, none⟩ = false := fun q => by unfold World.frozen?; rw [hg]; simp
      have hr2 := run_append_room_cells (P := P) w t ty e i ht hi g 0 n' cap a m c news (by rw [hsize]; exact hl) hnews h1 hroom
        (fun q hq => by rw [hsize]; refine hcell _ ?_; rw [hl] at hq; have := Nat.mul_le_mul_right size hroom; rw [Nat.add_mul] at this; omega) (fun q _ => hfz _)
      rw [hv, hr2] at hr
      injection hr with _ hw
      rw [← hw, World.cell?_setCells_out _ _ _ _ _ (fun _ _ => by rw [hsize]; left; simp; omega)]
    · obtain ⟨v2, w2, hr2, _, hg2⟩ := run_append_arg_grows (P := P) w t ty e i z size bytes ht hi hz hsize hby hzs hsz ⟨g, 0, none⟩ n' cap xs hown.1
        (fun q u hq => by
          have hql : q < n' * size := by
            have := (List.getElem?_eq_some_iff.1 hq).1; rw [hown.1] at this; exact this
          have hA : (⟨g, 0, none⟩ : Addr).add q = ⟨g, q, none⟩ := by unfold Addr.add; split <;> simp_all
          rw [hA, cell_of_row _ _ _ _ _ _ hg]
          rw [← htk, List.getElem?_take, if_pos hql] at hq
          simpa using hq) a m c news hl hnews (by omega) h63 hbytes
      rw [hv, hr2] at hr
      injection hr with _ hw
      rw [← hw]
      have hlt : g < w.heap.size := by
        rcases Nat.lt_or_ge g w.heap.size with hlt | hge
        · exact hlt
        · rw [Array.getElem?_eq_none hge] at hg; cases hg
      exact World.cell?_of_block (hg2.block g hlt (by simp))
/-- At a step of a region that draws its order. -/
theorem step_append_elder {ops : Array Oper} {o : Oper} {a : Act} {K : Act → World → Prop} {Q : Exit → Act → World → Prop} {E : Prop} (hgd : o.guard = none) (s x : Operand) (t : TypeId)
    (ho : o.op = .call { callee := .builtin .append, args := #[s, x], argTypes := #[t, t] })
    (base : Nat) (e : TypeId) (i : TypeInfo) (z : Value) (size bytes : Nat) (ht : P.underlying t = some (.slice e)) (hi : P.info? e = some i) (hz : i.zero = some z)
    (hsize : i.size = size) (hby : i.bytes = bytes) (hzs : z.cells.size = size) (hsz : 0 < size)
    (v : Value) (n : Nat) (xs : List Value) (hs : a.eval s = v) (hown : w.ownsRow base e size v n xs)
    (ad : Addr) (m c : Nat) (news : List Value) (hx : a.eval x = .slice (some ad) m c) (hl : news.length = m * size) (hnews : ∀ j u, news[j]? = some u → w.cell? (ad.add j) = some u) (h1 : ∀ u ∈ news, u.oneCell' = true)
    (h63 : n + m ≤ maxLen) (hbytes : (n + m) * bytes ≤ 140737488355328) (hbase : base ≤ w.heap.size)
    (h : ∀ v' w', w'.ownsRow base e size v' (n + m) (xs ++ news) → w.grownBy w' v.ownBlock → (v'.ownBlock = v.ownBlock ∨ v'.ownBlock = some w.heap.size) → Elder w w' v (n * size) → K (a.put o.dst v') w') :
    if Region.wanted o (yielded ops a.tmps) = true then Oper.wp P o a w K Q else E := by
  have hw : Region.wanted o (yielded ops a.tmps) = true := by simp [Region.wanted, hgd]
  rw [if_pos hw]
  obtain ⟨v', w', hr, h2, h3, h4, h5⟩ := run_append_elder (P := P) w base t o.type e i z size bytes ht hi hz hsize hby hzs hsz v n xs hown ad m c news hl hnews h1 h63 hbytes hbase
  unfold Oper.wp execOp
  simp only [ho, resolve, invoke, builtin, Sem.run_bind, Sem.run_pure, Result.andThen_ok, List.map_toArray, List.map_cons, List.map_nil, hs, hx, hr]
  exact h v' w' h2 h3 h4 h5
end
end Go.Proofs.YtgccidkkfalaeaaGreatDoor
