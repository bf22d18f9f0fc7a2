/- Lists of strings that a law compares, marks and reads again. -/
import Derived.Test.YtfpokpgkkjibfaaDoorSplit
import Derived.Test.YtfpokpgkkjibfaaDoorNum
import Derived.Laws.BytesArg
import Derived.Deep.RegionHeld3
namespace Go.Proofs.YtfpokpgkkjibfaaDoor
open Go.ChangeShapes Go.WideShapes Go.ChangeAt Go.RowKit
open Go.ChangeMaps (open_string shut_string)

/-- The place A begins with the strings L. -/
def StrS (w : World) (A : Option Addr) (L : List ByteArray) : Prop := ∀ j b, L[j]? = some b → ∃ g o, A = some ⟨g, o, none⟩ ∧ w.cell? ⟨g, o + j, none⟩ = some (.string b)
theorem OwnSS.strs {w : World} {B : Nat} {A : Option Addr} {L : List ByteArray} (h : OwnSS w B A L) : StrS w A L := by
  intro j b hj
  rcases h with ⟨_, rfl⟩ | ⟨g, rfl, _, hr⟩
  · simp at hj
  · exact ⟨g, 0, rfl, by rw [Nat.zero_add]; exact hr.cell hj⟩
theorem StrS.below {w w' : World} {A : Option Addr} {L : List ByteArray} (h : StrS w A L) (hb : Below w.heap.size w w') : StrS w' A L := by
  intro j b hj
  obtain ⟨g, o, e, hc⟩ := h j b hj
  exact ⟨g, o, e, keep_cell hb hc⟩

/-- The text that the law writes for the number k. -/
def markTx (k : Nat) : ByteArray := mkB (109 :: Lib.decDigits k)
theorem rem10 (u : Nat) (hu : 0 < u) (o : List UInt8) : (0 < u / 10 → Lib.decDigits (u / 10) ++ (UInt8.ofNat (48 + u % 10) :: o) = Lib.decDigits u ++ o) ∧ (u / 10 = 0 → UInt8.ofNat (48 + u % 10) :: o = Lib.decDigits u ++ o) := by
  constructor
  · intro h
    rw [decDigits_ge (u := u) (by omega)]; simp
  · intro h
    rw [decDigits_lt (u := u) (by omega)]
    have : u % 10 = u := by omega
    rw [this]; rfl
theorem mkB_cons (a : UInt8) (o : List UInt8) : (⟨#[a]⟩ : ByteArray) ++ mkB o = mkB (a :: o) := ba_ext (by simp [mkB])
set_option maxRecDepth 100000 in
theorem markText_any (k : Nat) (w : World) (h0 : 1 ≤ k) (h1 : k ≤ 1000000) :
    Calls Tryd.prog 71 #[.int .i64 (k : Int)] w fun e w' => e = .returned (.string (markTx k)) ∧ Below w.heap.size w w' := by
  have hl := decDigits_le k h1
  have hm : Hid (⟨#[109]⟩ ++ mkB (Lib.decDigits k) = markTx k) := Lib.hid (mkB_cons _ _)
  go_enter Tryd.func71, Tryd.ntmps71
  go_wp2
  go_loopw [0, 3] (fun a b wr => ∃ (u : Nat) (o : List UInt8), u ≤ k ∧ a = .int .i64 (u : Int) ∧ b = .string (mkB o) ∧ o.length ≤ 21 ∧ Hid ((0 < u → Lib.decDigits u ++ o = Lib.decDigits k) ∧ (u = 0 → o = Lib.decDigits k)) ∧ Below w.heap.size w wr) (fun a _ _ => (intOf a).toNat)
  case atStart => exact ⟨k, [], by omega, rfl, rfl, by simp, ⟨fun _ => by simp, fun h => by omega⟩, Below.refl _ _⟩
  case round =>
    obtain ⟨u, o, hu, rfl, rfl, hol, hdig, hb⟩ := hrel
    have hos := mkB_size o
    by_cases hz : 0 < u
    · have hcv : ∀ W : World, (convert 22 9 (.slice (some ⟨W.heap.size, 0, none⟩) 1 1)).run Tryd.prog (W.alloc (.cells #[.int .u8 (48 + (u : Int) % 10)] 5)) = .ok (.string ⟨#[UInt8.ofNat (48 + u % 10)]⟩) (W.alloc (.cells #[.int .u8 (48 + (u : Int) % 10)] 5)) := by
        intro W
        have h := run_convert_bytes_arg (P := Tryd.prog) (W.alloc (.cells #[.int .u8 (48 + (u : Int) % 10)] 5)) 22 5 Tryd.underlying22 Tryd.underlying5 W.heap.size 0 1 1 [48 + (u : Int) % 10] rfl (by
          intro i hi
          obtain rfl : i = 0 := by omega
          exact cell_new _ _ _ _ _ rfl) 9 Tryd.underlying9
        have hso : strOfNums [48 + (u : Int) % 10] = ⟨#[UInt8.ofNat (48 + u % 10)]⟩ := by
          have e : (48 + (u : Int) % 10).toNat = 48 + u % 10 := by omega
          unfold strOfNums
          simp only [List.map_cons, List.map_nil, e]
        rw [hso] at h
        exact h
      have hdig2 : Hid ((0 < u / 10 → Lib.decDigits (u / 10) ++ (UInt8.ofNat (48 + u % 10) :: o) = Lib.decDigits k) ∧ (u / 10 = 0 → UInt8.ofNat (48 + u % 10) :: o = Lib.decDigits k)) := by
        have h := rem10 u hz o
        rw [hdig.out.1 hz] at h
        exact h
      have hol2 : (UInt8.ofNat (48 + u % 10) :: o).length ≤ 21 := by
        rcases Nat.eq_zero_or_pos (u / 10) with e | e
        · rw [hdig2.out.2 e]; exact hl
        · have := congrArg List.length (hdig2.out.1 e); simp at this ⊢; omega
      have hcat : Hid (⟨#[UInt8.ofNat (48 + u % 10)]⟩ ++ mkB o = mkB (UInt8.ofNat (48 + u % 10) :: o)) := Lib.hid (mkB_cons _ _)
      clear hdig
      generalize UInt8.ofNat (48 + u % 10) = dg at *
      go_wp2
      go_roundw
      case rel => exact ⟨u / 10, dg :: o, by omega, by go_num, by rw [hcat.out], hol2, hdig2, hb.alloc hb.size _⟩
      case measure => simp [intOf]; omega
    · have hu0 : u = 0 := by omega
      have ho := hdig.out.2 hu0
      subst ho
      clear hdig
      go_wp2
      go_ret
      exact ⟨ret_str hm.out, hb⟩

/-- The law's marks from s on. -/
def smarks (s n : Nat) : List ByteArray := (List.range n).map fun i => markTx (s + i)
theorem smarks_len (s n : Nat) : (smarks s n).length = n := by simp [smarks]
theorem smarks_get (s n j : Nat) (h : j < n) : (smarks s n)[j]? = some (markTx (s + j)) := by simp [smarks, h]

set_option maxHeartbeats 400000 in
set_option maxRecDepth 100000 in
theorem heldStringS_any (A : Option Addr) (c n s : Nat) (w : World) (h : StrS w A (smarks s n)) (hn : n ≤ 5000) (h0 : 1 ≤ s) (h1 : s ≤ 100000) :
    Calls Tryd.prog 33 #[.slice A n c, .int .i64 (s : Int)] w fun e w' => e = .returned (.int .i64 ((s : Int) + (n : Int))) ∧ Below w.heap.size w w' := by
  go_enter Tryd.func33, Tryd.ntmps33
  go_wp2
  go_loopw [1, 5] (fun q i wr => ∃ k : Nat, k ≤ n ∧ i = .int .i64 (k : Int) ∧ q = .int .i64 ((s + k : Nat) : Int) ∧ Below w.heap.size w wr) (fun _ i _ => n - (intOf i).toNat)
  case atStart => exact ⟨0, Nat.zero_le _, rfl, by simp, Below.refl _ _⟩
  case round =>
    obtain ⟨j, hj, rfl, rfl, hb⟩ := hrel
    by_cases hlt : j < n
    · obtain ⟨g, o, rfl, hc⟩ := (h.below hb) j _ (smarks_get s n j hlt)
      have hM := Lib.hid (fun W => markText_any (s + j) W (by omega) (by omega))
      have hcmp := bytes_eq (a := markTx (s + j)) (b := markTx (s + j))
      rw [decide_eq_true rfl] at hcmp
      have i0 : (0 : Int) ≤ (j : Int) := by omega
      have i1 : (j : Int) < (n : Int) := by omega
      clear h
      generalize markTx (s + j) = x at *
      go_wp2_with fail
      go_region_held3 (fun w' => w'.cell? ⟨g, o + j, none⟩ = some (.string x))
        (first | (exact hc) | (exact keep_cell hb1 hc))
        ((go_at_call 71; refine (hM.out _).mono ?_; rintro e1 w2 ⟨rfl, hb1⟩; replace hb1 : Below wr.heap.size wr w2 := ⟨hb1.os, hb1.tape, hb1.output, hb1.size, hb1.block⟩))
      go_wp2
      go_roundw
      case rel => exact ⟨j + 1, by omega, by go_num, by go_num, keep_below hb1 hb⟩
      case measure => simp [intOf]; omega
    · have hjn : j = n := by omega
      subst hjn
      go_wp2
      go_ret
      exact ⟨by simp, hb⟩

theorem eqStringS_same (A B : Option Addr) (c e : Nat) (L : List ByteArray) (w : World) (h : StrS w A L) (k : StrS w B L) (hn : L.length ≤ 1048576) :
    Calls Tryd.prog 31 #[.slice A L.length c, .slice B L.length e] w fun e w' => e = .returned (.bool true) ∧ ∃ n, w' = w.drewN n := by
  go_enter Tryd.func31, Tryd.ntmps31
  go_wp2
  go_loopw [5] (fun i wr => ∃ k : Nat, k ≤ L.length ∧ i = .int .i64 k ∧ ∃ n, wr = w.drewN n) (fun i _ => L.length - (intOf i).toNat)
  case atStart => exact ⟨0, Nat.zero_le _, rfl, 0, rfl⟩
  case round =>
    obtain ⟨j, hj, rfl, nq, rfl⟩ := hrel
    by_cases hlt : j < L.length
    · obtain ⟨b, o, rfl, hc⟩ := h j _ (List.getElem?_eq_getElem hlt)
      obtain ⟨b', o', rfl, hc'⟩ := k j _ (List.getElem?_eq_getElem hlt)
      have hcmp := bytes_eq (a := L[j]) (b := L[j])
      rw [decide_eq_true rfl] at hcmp
      have i0 : (0 : Int) ≤ (j : Int) := by omega
      have i1 : (j : Int) < (L.length : Int) := by omega
      clear h k
      generalize L[j] = x at *
      go_wp2_with fail
      go_quiet (fail)
      go_wp2
      go_roundw
      case rel => exact ⟨j + 1, by omega, by go_num, _, rfl⟩
      case measure => simp [intOf]; omega
    · go_wp2
      go_ret
      exact ⟨rfl, nq, rfl⟩

theorem set_blockS {w : World} {g : Nat} {cs : Array Value} {t : TypeId} (h : w.heap[g]? = some (.cells cs t (0, 0))) (i : Nat) (v : Value) : (w.setCell ⟨g, i, none⟩ v).heap[g]? = some (.cells (cs.setIfInBounds i v) t (0, 0)) := by
  simp [World.setCell, Array.getElem?_modify, h]
theorem grown_setS {w wr : World} {g : Nat} (h : w.grownBy wr (some g)) (i : Nat) (v : Value) : w.grownBy (wr.setCell ⟨g, i, none⟩ v) (some g) :=
  ⟨h.os, h.tape, h.output, by simpa [World.setCell] using h.size, fun k hk hne => by
    rw [Below.heap_setCell _ _ _ _ (by intro e; exact hne (by rw [e]))]; exact h.block k hk hne⟩
theorem grown_belowS {w wr w1 : World} {g : Nat} (h : w.grownBy wr (some g)) (hb : Below wr.heap.size wr w1) : w.grownBy w1 (some g) :=
  ⟨hb.os.trans h.os, hb.tape.trans h.tape, hb.output.trans h.output, Nat.le_trans h.size hb.size, fun k hk hne => (hb.block k (Nat.lt_of_lt_of_le hk h.size)).trans (h.block k hk hne)⟩
/-- The block's first k cells are marked from s on. -/
def MarkS (wr : World) (g s k n : Nat) : Prop := ∃ cs : Array Value, wr.heap[g]? = some (.cells cs 9 (0, 0)) ∧ n ≤ cs.size ∧ ∀ j, j < k → cs[j]? = some (.string (markTx (s + j)))
theorem MarkS.below {wr w1 : World} {g s k n : Nat} (h : MarkS wr g s k n) (hb : Below wr.heap.size wr w1) : MarkS w1 g s k n := by
  obtain ⟨cs, h, hr⟩ := h
  refine ⟨cs, (hb.block g ?_).trans h, hr⟩
  rcases Nat.lt_or_ge g wr.heap.size with hlt | hge
  · exact hlt
  · rw [Array.getElem?_eq_none hge] at h; cases h
theorem MarkS.cell {wr : World} {g s k n : Nat} (h : MarkS wr g s k n) {j : Nat} (hj : j < n) : ∃ u, wr.cell? ⟨g, j, none⟩ = some u := by
  obtain ⟨cs, h, hn, _⟩ := h
  exact ⟨cs[j], by rw [cell_of_row _ _ _ _ _ _ h, Array.getElem?_eq_getElem (by omega)]⟩
theorem MarkS.free {wr : World} {g s k n : Nat} (h : MarkS wr g s k n) (j : Nat) : wr.frozen? ⟨g, j, none⟩ = false := by
  obtain ⟨cs, h, hn, _⟩ := h
  unfold World.frozen?; rw [h]; simp
theorem MarkS.next {wr : World} {g s k n : Nat} (h : MarkS wr g s k n) (hk : k < n) : MarkS (wr.setCell ⟨g, k, none⟩ (.string (markTx (s + k)))) g s (k + 1) n := by
  obtain ⟨cs, h, hn, hc⟩ := h
  refine ⟨_, set_blockS h k _, by simpa using hn, fun j hj => ?_⟩
  rw [Array.getElem?_setIfInBounds]
  by_cases e : k = j
  · subst e; rw [if_pos rfl, if_pos (by omega)]
  · rw [if_neg e]; exact hc j (by omega)
theorem MarkS.row {wr : World} {g s n : Nat} (h : MarkS wr g s n n) : RowS wr g (smarks s n) := by
  obtain ⟨cs, h, hn, hc⟩ := h
  refine ⟨cs, h, cs.toList.drop n, ?_⟩
  have : strs (smarks s n) = cs.toList.take n := by
    apply List.ext_getElem
    · simp [strs, smarks]; omega
    · intro j h1 h2
      simp [strs, smarks] at h1
      have h3 := hc j h1
      rw [Array.getElem?_eq_getElem (by omega)] at h3
      simp [strs, smarks]
      exact (Option.some.inj h3).symm
  rw [this, List.take_append_drop]
theorem RowS.marked {w : World} {g : Nat} {L : List ByteArray} (h : RowS w g L) (s : Nat) : MarkS w g s 0 L.length := by
  obtain ⟨cs, h, r, hr⟩ := h
  refine ⟨cs, h, ?_, fun j hj => absurd hj (by omega)⟩
  have := congrArg List.length hr
  simp [strs] at this; omega

set_option maxHeartbeats 400000 in
set_option maxRecDepth 100000 in
theorem markStringS_row (g c s : Nat) (L : List ByteArray) (w : World) (h : RowS w g L) (hn : L.length ≤ 5000) (h0 : 1 ≤ s) (h1 : s ≤ 100000) :
    Calls Tryd.prog 32 #[.slice (some ⟨g, 0, none⟩) L.length c, .int .i64 (s : Int)] w fun e w' => e = .returned (.int .i64 ((s : Int) + (L.length : Int))) ∧ RowS w' g (smarks s L.length) ∧ w.grownBy w' (some g) := by
  have hm := h.marked s
  clear h
  obtain ⟨n, hn'⟩ : ∃ n, n = L.length := ⟨_, rfl⟩
  rw [← hn'] at hm hn ⊢
  clear hn' L
  go_enter Tryd.func32, Tryd.ntmps32
  go_wp2
  go_loopw [1, 5] (fun q i wr => ∃ k : Nat, k ≤ n ∧ i = .int .i64 (k : Int) ∧ q = .int .i64 ((s + k : Nat) : Int) ∧ MarkS wr g s k n ∧ w.grownBy wr (some g)) (fun _ i _ => n - (intOf i).toNat)
  case atStart => exact ⟨0, Nat.zero_le _, rfl, by simp, hm, World.grownBy.refl w _⟩
  case round =>
    obtain ⟨j, hj, rfl, rfl, hmk, hgr⟩ := hrel
    clear hm
    by_cases hlt : j < n
    · have hM := Lib.hid (fun W => markText_any (s + j) W (by omega) (by omega))
      have HX := Lib.hid (fun (w2 : World) (hb : Below wr.heap.size wr w2) => (⟨(hmk.below hb).cell hlt, (hmk.below hb).free j, (hmk.below hb).next hlt, grown_setS (grown_belowS hgr hb) j (.string (markTx (s + j)))⟩ : (∃ u, w2.cell? ⟨g, j, none⟩ = some u) ∧ w2.frozen? ⟨g, j, none⟩ = false ∧ MarkS (w2.setCell ⟨g, j, none⟩ (.string (markTx (s + j)))) g s (j + 1) n ∧ w.grownBy (w2.setCell ⟨g, j, none⟩ (.string (markTx (s + j)))) (some g)))
      clear hmk hgr
      generalize markTx (s + j) = x at *
      go_wp2_with fail
      refine (hM.out _).mono ?_
      rintro e1 w2 ⟨rfl, hb1⟩
      obtain ⟨⟨u, hu⟩, hf, hnx, hgn⟩ := HX.out w2 hb1
      clear HX hb1
      go_wp2
      go_roundw
      case rel => exact ⟨j + 1, by omega, by go_num, by go_num, hnx, hgn⟩
      case measure => simp [intOf]; omega
    · have hjn : j = n := by omega
      subst hjn
      go_wp2
      go_ret
      exact ⟨by simp, hmk.row, hgr⟩
theorem markStringS_own (A : Option Addr) (c s : Nat) (L : List ByteArray) (w : World) (B : Nat) (h : OwnSS w B A L) (hn : L.length ≤ 5000) (h0 : 1 ≤ s) (h1 : s ≤ 100000) :
    Calls Tryd.prog 32 #[.slice A L.length c, .int .i64 (s : Int)] w fun e w' => e = .returned (.int .i64 ((s : Int) + (L.length : Int))) ∧ OwnSS w' B A (smarks s L.length) ∧ (B ≤ w.heap.size → Below B w w') := by
  rcases h with ⟨rfl, rfl⟩ | ⟨g, rfl, hB, hr⟩
  · go_enter Tryd.func32, Tryd.ntmps32
    go_wp2
    refine wp_loop_rounds 1 ?_
    rw [rounds_succ]
    go_wp2
    go_ret
    exact ⟨by simp, .inl ⟨rfl, rfl⟩, fun _ => Below.refl _ _⟩
  · refine (markStringS_row g c s L w hr hn h0 h1).mono fun e w' ⟨he, hr', hg⟩ => ⟨he, .inr ⟨g, rfl, hB, hr'⟩, fun hBw => ⟨hg.os, hg.tape, hg.output, hg.size, fun k hk => hg.block k (by omega) (fun e => by injection e; omega)⟩⟩
end Go.Proofs.YtfpokpgkkjibfaaDoor
