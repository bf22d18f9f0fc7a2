/- append to an own slice: the elder elements stay where they lie (as a step of a region that draws its order, too). -/
import Derived.Test.YtombfbmcplefgaaSums2
import Derived.Deep.AppendLies
import Derived.Deep.RegionHeld3
import Derived.ArgAppend
import Derived.Laws.IdiomCopy
import Derived.StillTailTactics
namespace Go.Proofs.Ytombfbmcplefgaa
open Go.ChangeShapes Go.WideShapes Go.ChangeAt Go.RowKit

section
variable {P : Program} (w : World)
/-- The elder elements of an own slice are as they were. -/
def Elder (w w' : World) (v : Value) (k : Nat) : Prop := ∀ g n cap, v = .slice (some ⟨g, 0, none⟩) n cap → ∀ j, j < k → w'.cell? ⟨g, j, none⟩ = w.cell? ⟨g, j, none⟩
theorem run_append_elder (base : Nat) (t ty e : TypeId) (i : TypeInfo) (z : Value) (size bytes : Nat) (ht : P.underlying t = some (.slice e)) (hi : P.info? e = some i) (hz : i.zero = some z)
    (hsize : i.size = size) (hby : i.bytes = bytes) (hzs : z.cells.size = size) (hsz : 0 < size)
    (v : Value) (n : Nat) (xs : List Value) (hown : w.ownsRow base e size v n xs)
    (a : Addr) (m c : Nat) (news : List Value) (hl : news.length = m * size) (hnews : ∀ j u, news[j]? = some u → w.cell? (a.add j) = some u) (h1 : ∀ u ∈ news, u.oneCell' = true)
    (h63 : n + m ≤ maxLen) (hbytes : (n + m) * bytes ≤ 140737488355328) (hbase : base ≤ w.heap.size) :
    ∃ v' w', (Builtin.append_ #[t, t] ty #[v, .slice (some a) m c]).run P w = .ok v' w' ∧ w'.ownsRow base e size v' (n + m) (xs ++ news) ∧ w.grownBy w' v.ownBlock ∧
      (v'.ownBlock = v.ownBlock ∨ v'.ownBlock = some w.heap.size) ∧ Elder w w' v (n * size) := by
  obtain ⟨v', w', hr, h2, h3, _, h5⟩ := run_append_own_at (P := P) w base t ty e i z size bytes ht hi hz hsize hby hzs hsz v n xs hown a m c news hl hnews h1 h63 hbytes hbase
  refine ⟨v', w', hr, h2, h3, h5, ?_⟩
  intro g n' cap hv j hj
  have hown' := hown
  rcases hown.2 with ⟨hv0, h0⟩ | ⟨g', cap', cur, hv', hb, hg, hnc, hcm, hcs, htk⟩
  · subst h0; simp at hj
  · rw [hv] at hv'
    injection hv' with e1 e2 e3
    injection e1 with e1
    injection e1 with e1
    subst e1; subst e2; subst e3
    by_cases hroom : n' + m ≤ cap
    · have hcell : ∀ q, q < cap * size → (w.cell? ⟨g, q, none⟩).isSome = true := fun q hq => by
        rw [cell_of_row _ _ _ _ _ _ hg, Array.getElem?_eq_getElem (by omega)]; rfl
      have hfz : ∀ q, w.frozen? ⟨g, q, none⟩ = false := fun q => by unfold World.frozen?; rw [hg]; simp
      have hr2 := run_append_room_cells (P := P) w t ty e i ht hi g 0 n' cap a m c news (by rw [hsize]; exact hl) hnews h1 hroom
        (fun q hq => by rw [hsize]; refine hcell _ ?_; rw [hl] at hq; have := Nat.mul_le_mul_right size hroom; rw [Nat.add_mul] at this; omega) (fun q _ => hfz _)
      rw [hv, hr2] at hr
      injection hr with _ hw
      rw [← hw, World.cell?_setCells_out _ _ _ _ _ (fun _ _ => by rw [hsize]; left; simp; omega)]
    · obtain ⟨v2, w2, hr2, _, hg2⟩ := run_append_arg_grows (P := P) w t ty e i z size bytes ht hi hz hsize hby hzs hsz ⟨g, 0, none⟩ n' cap xs hown.1
        (fun q u hq => by
          have hql : q < n' * size := by
            have := (List.getElem?_eq_some_iff.1 hq).1; rw [hown.1] at this; exact this
          have hA : (⟨g, 0, none⟩ : Addr).add q = ⟨g, q, none⟩ := by unfold Addr.add; split <;> simp_all
          rw [hA, cell_of_row _ _ _ _ _ _ hg]
          rw [← htk, List.getElem?_take, if_pos hql] at hq
          simpa using hq) a m c news hl hnews (by omega) h63 hbytes
      rw [hv, hr2] at hr
      injection hr with _ hw
      rw [← hw]
      have hlt : g < w.heap.size := by
        rcases Nat.lt_or_ge g w.heap.size with hlt | hge
        · exact hlt
        · rw [Array.getElem?_eq_none hge] at hg; cases hg
      exact World.cell?_of_block (hg2.block g hlt (by simp))
/-- At a step of a region that draws its order. -/
theorem step_append_elder {ops : Array Oper} {o : Oper} {a : Act} {K : Act → World → Prop} {Q : Exit → Act → World → Prop} {E : Prop} (hgd : o.guard = none) (s x : Operand) (t : TypeId)
    (ho : o.op = .call { callee := .builtin .append, args := #[s, x], argTypes := #[t, t] })
    (base : Nat) (e : TypeId) (i : TypeInfo) (z : Value) (size bytes : Nat) (ht : P.underlying t = some (.slice e)) (hi : P.info? e = some i) (hz : i.zero = some z)
    (hsize : i.size = size) (hby : i.bytes = bytes) (hzs : z.cells.size = size) (hsz : 0 < size)
    (v : Value) (n : Nat) (xs : List Value) (hs : a.eval s = v) (hown : w.ownsRow base e size v n xs)
    (ad : Addr) (m c : Nat) (news : List Value) (hx : a.eval x = .slice (some ad) m c) (hl : news.length = m * size) (hnews : ∀ j u, news[j]? = some u → w.cell? (ad.add j) = some u) (h1 : ∀ u ∈ news, u.oneCell' = true)
    (h63 : n + m ≤ maxLen) (hbytes : (n + m) * bytes ≤ 140737488355328) (hbase : base ≤ w.heap.size)
    (h : ∀ v' w', w'.ownsRow base e size v' (n + m) (xs ++ news) → w.grownBy w' v.ownBlock → (v'.ownBlock = v.ownBlock ∨ v'.ownBlock = some w.heap.size) → Elder w w' v (n * size) → K (a.put o.dst v') w') :
    if Region.wanted o (yielded ops a.tmps) = true then Oper.wp P o a w K Q else E := by
  have hw : Region.wanted o (yielded ops a.tmps) = true := by simp [Region.wanted, hgd]
  rw [if_pos hw]
  obtain ⟨v', w', hr, h2, h3, h4, h5⟩ := run_append_elder (P := P) w base t o.type e i z size bytes ht hi hz hsize hby hzs hsz v n xs hown ad m c news hl hnews h1 h63 hbytes hbase
  unfold Oper.wp execOp
  simp only [ho, resolve, invoke, builtin, Sem.run_bind, Sem.run_pure, Result.andThen_ok, List.map_toArray, List.map_cons, List.map_nil, hs, hx, hr]
  exact h v' w' h2 h3 h4 h5
end
/-- A list, filled up with zeros to n. -/
def padZ (L : List Int) (n : Nat) : List Int := L ++ List.replicate (n - L.length) 0
theorem padZ_set (L : List Int) (n : Nat) (v : Int) (h : L.length < n) : (padZ L n).set L.length v = padZ (L ++ [v]) n := by
  unfold padZ
  have e : n - L.length = (n - (L ++ [v]).length) + 1 := by simp; omega
  rw [e, List.replicate_succ, List.set_append_right _ _ (Nat.le_refl _)]
  simp
theorem padZ_nth (L : List Int) (n j : Nat) (hj : j < L.length) : nth (padZ L n) j = nth L j := nth_app_lt hj
theorem padZ_len (L : List Int) (n : Nat) (h : L.length ≤ n) : (padZ L n).length = n := by simp [padZ]; omega
theorem padZ_nil (n : Nat) : padZ [] n = List.replicate n 0 := by simp [padZ]
theorem padZ_one (n : Nat) (h : 1 ≤ n) : padZ [0] n = List.replicate n 0 := by
  unfold padZ
  have e : n = (n - 1) + 1 := by omega
  conv => rhs; rw [e, List.replicate_succ]
  rfl
theorem padZ_all (L : List Int) (n : Nat) (h : L.length = n) : padZ L n = L := by subst h; simp [padZ]
theorem mem_nth {L : List Int} {v : Int} (h : v ∈ L) : ∃ j, j < L.length ∧ nth L j = v := by
  obtain ⟨j, hj, he⟩ := List.getElem_of_mem h
  exact ⟨j, hj, by simp [nth, List.getD, hj, he]⟩
theorem nth_mem {L : List Int} {j : Nat} (h : j < L.length) : nth L j ∈ L := by
  have : nth L j = L[j] := by simp [nth, List.getD, h]
  rw [this]; exact List.getElem_mem h
/-- What holds S' everywhere on holds S. -/
theorem wpAnyH_mono {P : Program} {md : Region.Mode} {ops : Array Oper} {Q : Exit → Act → World → Prop} {S S' : World → Prop} (hS : ∀ w, S' w → S w) :
    ∀ (fuel : Nat) (listed : Array Bool) (a : Act) (w : World), wpAnyH P md ops Q S' fuel listed a w → wpAnyH P md ops Q S fuel listed a w
  | 0, _, _, _, h => h
  | fuel + 1, _, _, _, h => ⟨h.1, fun i hi => wpOp_mono (fun a' w' h' => ⟨hS _ h'.1, wpAnyH_mono hS fuel _ a' w' h'.2⟩) (h.2 i hi)⟩
theorem KeptBut.refl2 (w : World) (p : Nat) : KeptBut w w p p := ⟨rfl, rfl, rfl, Nat.le_refl _, fun _ _ _ _ => rfl⟩
theorem KeptBut.post {w W w1 : World} {p : Nat} (h : KeptBut w W p p) (hb : Below W.heap.size W w1) : KeptBut w w1 p p :=
  ⟨hb.os.trans h.os, hb.tape.trans h.tape, hb.output.trans h.output, Nat.le_trans h.size hb.size, fun k hk hp hq => (hb.block k (Nat.lt_of_lt_of_le hk h.size)).trans (h.block k hk hp hq)⟩
theorem KeptBut.trans2 {w W w1 : World} {p : Nat} (h : KeptBut w W p p) (hb : KeptBut W w1 p p) : KeptBut w w1 p p :=
  ⟨hb.os.trans h.os, hb.tape.trans h.tape, hb.output.trans h.output, Nat.le_trans h.size hb.size, fun k hk hp hq => (hb.block k (Nat.lt_of_lt_of_le hk h.size) hp hq).trans (h.block k hk hp hq)⟩
theorem keep_froz2 {W w1 : World} {p : Addr} {v : Value} (hb : Below W.heap.size W w1) (h : W.cell? p = some v) (hf : W.frozen? p = false) : w1.frozen? p = false := by
  rw [hb.frozen (World.block_lt_of_cell? W p h)]; exact hf
theorem KeptBut.setg {w wr : World} {g : Nat} (h : KeptBut w wr g g) (i : Nat) (v : Value) : KeptBut w (wr.setCell ⟨g, i, none⟩ v) g g :=
  ⟨h.os, h.tape, h.output, by simpa [World.setCell] using h.size, fun k hk hp _ => by
    rw [Below.heap_setCell _ _ _ _ (by intro e; exact hp (by rw [e]))]; exact h.block k hk hp hp⟩
theorem KeptBut.drew {w wr : World} {p q : Nat} (h : KeptBut w wr p q) : KeptBut w wr.drew p q := ⟨h.os, h.tape, h.output, h.size, h.block⟩
theorem wpAnyH_name {P : Program} {md : Region.Mode} {ops : Array Oper} {Q : Exit → Act → World → Prop} {S : World → Prop} {fuel : Nat} {listed : Array Bool} {a : Act} {w : World} (hS : S w)
    (h : ∀ wz, S wz → wz = w → wpAnyH P md ops Q S fuel listed a wz) : wpAnyH P md ops Q S fuel listed a w := h w hS rfl
theorem keep_below_dr {w W w1 : World} (hb : Below W.heap.size W w1) (h : Below w.heap.size w W.drew) : Below w.heap.size w w1 :=
  keep_below hb (⟨h.os, h.tape, h.output, h.size, h.block⟩ : Below w.heap.size w W)
theorem alloc3 (w : World) (a b c d : Value) (t1 t2 : TypeId) (o : Obj) {g : Nat} (hg : g = w.heap.size + 1) :
    (((w.alloc (.cells #[a, b] t1)).alloc (.cells #[c, d] t2)).alloc o).cell? ⟨w.heap.size, 0, none⟩ = some a ∧ (((w.alloc (.cells #[a, b] t1)).alloc (.cells #[c, d] t2)).alloc o).cell? ⟨w.heap.size, 1, none⟩ = some b ∧
    (((w.alloc (.cells #[a, b] t1)).alloc (.cells #[c, d] t2)).alloc o).cell? ⟨g, 0, none⟩ = some c ∧ (((w.alloc (.cells #[a, b] t1)).alloc (.cells #[c, d] t2)).alloc o).cell? ⟨g, 1, none⟩ = some d ∧
    (((w.alloc (.cells #[a, b] t1)).alloc (.cells #[c, d] t2)).alloc o).frozen? ⟨g, 0, none⟩ = false ∧ (((w.alloc (.cells #[a, b] t1)).alloc (.cells #[c, d] t2)).alloc o).frozen? ⟨g, 1, none⟩ = false := by
  subst hg
  have k1 : ∀ (W : World) (o : Obj), Below W.heap.size W (W.alloc o) := fun W o => (Below.refl _ _).alloc (Nat.le_refl _) o
  have e : w.heap.size + 1 = (w.alloc (.cells #[a, b] t1)).heap.size := by simp
  have c0 : ((w.alloc (.cells #[a, b] t1)).alloc (.cells #[c, d] t2)).cell? ⟨w.heap.size + 1, 0, none⟩ = some c := cell_new _ _ _ _ _ e
  have c1 : ((w.alloc (.cells #[a, b] t1)).alloc (.cells #[c, d] t2)).cell? ⟨w.heap.size + 1, 1, none⟩ = some d := cell_new _ _ _ _ _ e
  exact ⟨keep_cell (k1 _ _) (keep_cell (k1 _ _) (cell_new w _ _ 0 _ rfl)), keep_cell (k1 _ _) (keep_cell (k1 _ _) (cell_new w _ _ 1 _ rfl)), keep_cell (k1 _ _) c0, keep_cell (k1 _ _) c1,
    keep_froz2 (k1 _ _) c0 (frozen_new _ _ _ _ _ e), keep_froz2 (k1 _ _) c1 (frozen_new _ _ _ _ _ e)⟩
end Go.Proofs.Ytombfbmcplefgaa
