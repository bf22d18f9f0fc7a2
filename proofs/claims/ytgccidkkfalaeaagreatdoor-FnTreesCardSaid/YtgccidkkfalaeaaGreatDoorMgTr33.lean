/- The text of a tree: the reference's l2Text and the program's treeText give the same. -/
import Derived.Test.YtgccidkkfalaeaaGreatDoorMgTr32
import Derived.Test.YtgccidkkfalaeaaGreatDoorMgTr31
import Derived.Test.YtgccidkkfalaeaaGreatDoorMgTr9
import Derived.Test.YtgccidkkfalaeaaGreatDoorMgTr3
namespace Go.Proofs.YtgccidkkfalaeaaGreatDoor
open Go.ChangeShapes Go.WideShapes Go.ChangeAt Go.RowKit
open Go.ChangeMaps (open_string shut_string)

def wordB (p q : Int) : ByteArray := itoaB p ++ ⟨#[58]⟩ ++ itoaB q
def treeL (xs ys : List Int) (k : Nat) : List ByteArray := (List.range k).map fun j => wordB (nth xs j) (nth ys j)
theorem treeL_next (xs ys : List Int) (k : Nat) : treeL xs ys (k + 1) = treeL xs ys k ++ [wordB (nth xs k) (nth ys k)] := by simp [treeL, List.range_succ]
theorem treeL_len (xs ys : List Int) (k : Nat) : (treeL xs ys k).length = k := by simp [treeL]
def txB (xs ys : List Int) : ByteArray := jnB 32 (treeL xs ys xs.length)
theorem jn_snoc {c : UInt8} {M : List ByteArray} (hM : M ≠ []) (b : ByteArray) : jnB c (M ++ [b]) = jnB c M ++ ⟨#[c]⟩ ++ b := by
  have hb : (M ++ [b])[M.length]? = some b := by simp
  have h := jn_next (c := c) (L := M ++ [b]) (k := M.length) (by cases M with | nil => exact absurd rfl hM | cons a M => simp) hb
  have e1 : (M ++ [b]).take (M.length + 1) = M ++ [b] := List.take_of_length_le (by simp)
  have e2 : (M ++ [b]).take M.length = M := by simp
  rw [e1, e2] at h; exact h
theorem jn_single (c : UInt8) (b : ByteArray) : jnB c [b] = b := by simp [jnB, jnF, mkB_data]
theorem itoaB_size (n : Int) (h0 : -1000000 ≤ n) (h1 : n ≤ 1000000) : (itoaB n).size ≤ 21 := by
  have h := Lib.itoa_length_le n (by omega) (by omega)
  simpa [itoaB, ByteArray.size] using h
theorem wordB_size (p q : Int) (hp : -1000000 ≤ p ∧ p ≤ 1000000) (hq : -1000000 ≤ q ∧ q ≤ 1000000) : (wordB p q).size ≤ 43 := by
  have h1 := itoaB_size p hp.1 hp.2
  have h2 := itoaB_size q hq.1 hq.2
  have h3 : (⟨#[58]⟩ : ByteArray).size = 1 := rfl
  unfold wordB; rw [ByteArray.size_append, ByteArray.size_append]; omega
/-- Numbers as small as a tree's. -/
def SmallT (xs ys : List Int) : Prop := ∀ j, (-1000000 ≤ nth xs j ∧ nth xs j ≤ 1000000) ∧ (-1000000 ≤ nth ys j ∧ nth ys j ≤ 1000000)
theorem jnF_treeL (xs ys : List Int) (h : SmallT xs ys) (k : Nat) : (jnF 32 (treeL xs ys k)).length ≤ 44 * k := by
  induction k with
  | zero => simp [treeL, jnF]
  | succ k ih =>
    rw [treeL_next, jnF_snoc, List.length_append, List.length_cons, ← Lib.size_eq]
    have := wordB_size _ _ (h k).1 (h k).2
    omega
theorem txB_part (xs ys : List Int) (h : SmallT xs ys) (k : Nat) : (jnB 32 (treeL xs ys k)).size ≤ 44 * k := by
  have := jnF_treeL xs ys h k
  rw [jnB_size]; omega
theorem good_wtT {xs ys : List Int} (h : good xs ys = true) (j : Nat) : 0 ≤ nth ys j ∧ nth ys j ≤ 20 := by
  by_cases hj : j < xs.length
  · have := (good_iff.1 h).2.2 j hj
    unfold wtOk at this
    split at this
    · have := of_decide_eq_true this; omega
    · have : nth ys j = 0 := by simpa using this
      omega
  · have hl := good_len h
    have e : nth ys j = 0 := by unfold nth; rw [List.getD, List.getElem?_eq_none (by omega)]; rfl
    omega
theorem up_natT {xs : List Int} (hu : UpOk xs xs.length) {j : Nat} (h1 : 1 ≤ j) (hj : j < xs.length) : 0 ≤ nth xs j ∧ nth xs j < j := by
  have := of_decide_eq_true (hu j h1 hj); omega
theorem good_small {xs ys : List Int} (h : good xs ys = true) : SmallT xs ys := by
  intro j
  have hl := good_len h
  have hw := good_wtT h j
  refine ⟨?_, by omega, by omega⟩
  by_cases hj : j < xs.length
  · by_cases h0 : j = 0
    · subst h0; have : nth xs 0 = -1 := (good_iff.1 h).1.2.2; omega
    · have := up_natT (good_iff.1 h).2.1 (show 1 ≤ j by omega) hj
      omega
  · have e : nth xs j = 0 := by unfold nth; rw [List.getD, List.getElem?_eq_none (by omega)]; rfl
    omega

set_option maxHeartbeats 1000000 in
set_option maxRecDepth 100000 in
theorem l2Text_any (A B : Option Addr) (c e : Nat) (xs ys : List Int) (w : World) (h : IntS w A xs) (k : IntS w B ys) (hn : xs.length ≤ 24) (hm : ys.length = xs.length) (hs : SmallT xs ys) :
    Calls Tryz.prog 46 #[.agg #[.slice A xs.length c, .slice B ys.length e]] w fun e w' => e = .returned (.string (txB xs ys)) ∧ Below w.heap.size w w' := by
  obtain ⟨n, hn'⟩ : ∃ n, n = xs.length := ⟨_, rfl⟩
  have HX : Hid (txB xs ys = jnB 32 (treeL xs ys n)) := Lib.hid (by rw [hn']; rfl)
  have HA := Lib.hid h
  have HB := Lib.hid k
  have HN := Lib.hid hn'
  have HM := Lib.hid (hm.trans hn'.symm)
  rw [← hn'] at hn
  rw [hm, ← hn']
  clear h k hn' hm
  go_enter Tryz.func46, Tryz.ntmps46
  go_wp2
  go_loopw [3, 4] (fun s i wr => ∃ k : Nat, k ≤ n ∧ i = .int .i64 (k : Int) ∧ s = .string (jnB 32 (treeL xs ys k)) ∧ wr.cell? ⟨w.heap.size, 0, none⟩ = some (.slice A n c) ∧ wr.cell? ⟨w.heap.size, 1, none⟩ = some (.slice B n e) ∧ Below w.heap.size w wr) (fun _ i _ => n - (intOf i).toNat)
  case atStart => exact ⟨0, Nat.zero_le _, rfl, rfl, by simp, by simp, by (repeat (first | with_reducible exact Below.refl _ _ | with_reducible assumption | with_reducible refine Below.alloc' ?_ ?_ _ | with_reducible refine Below.setCell' ?_ ?_ _ | with_reducible refine Below.drewN' ?_ _ | with_reducible refine Below.drew ?_ | with_reducible refine Below.transA ?_ (by assumption) ?_ | omega | (focus (simp; done)) | (focus (simp; omega))))⟩
  case round =>
    obtain ⟨k, hk, rfl, rfl, hx0, hx1, hb0⟩ := hrel
    by_cases hlt : k < n
    · obtain ⟨b1, o1, rfl, hc1⟩ := (HA.out.below hb0).at_ (j := k) (by rw [← HN.out]; exact hlt)
      obtain ⟨b2, o2, rfl, hc2⟩ := (HB.out.below hb0).at_ (j := k) (by rw [HM.out]; exact hlt)
      have hp := (hs k).1
      have hq := (hs k).2
      have hN1 := Lib.hid (fun w => num_any (nth xs k) hp.1 hp.2 w)
      have hN2 := Lib.hid (fun w => num_any (nth ys k) hq.1 hq.2 w)
      have hz1 := itoaB_size _ hp.1 hp.2
      have hz2 := itoaB_size _ hq.1 hq.2
      have hz3 := txB_part xs ys hs k
      have i0 : (0 : Int) ≤ (k : Int) := by omega
      have i1 : (k : Int) < (n : Int) := by omega
      by_cases hk0 : k = 0
      · have HE : Hid (jnB 32 (treeL xs ys k) ++ itoaB (nth xs k) ++ ⟨#[58]⟩ ++ itoaB (nth ys k) = jnB 32 (treeL xs ys (k + 1))) := by
          refine Lib.hid ?_
          rw [treeL_next]
          subst hk0
          have e0 : treeL xs ys 0 = [] := rfl
          rw [e0, List.nil_append, jn_single]
          exact ba_ext (by simp [jnB, jnF, mkB, wordB])
        have hkz : ¬ (0 : Int) < (k : Int) := by omega
        replace hc1 : wr.cell? ⟨b1, o1 + ((k : Int)).toNat, none⟩ = some (.int .i64 (nth xs k)) := hc1
        replace hc2 : wr.cell? ⟨b2, o2 + ((k : Int)).toNat, none⟩ = some (.int .i64 (nth ys k)) := hc2
        generalize jnB 32 (treeL xs ys k) = q at *
        generalize itoaB (nth xs k) = p1 at *
        generalize itoaB (nth ys k) = p2 at *
        generalize nth xs k = x at *
        generalize nth ys k = y at *
        have HL := Lib.hid hlt
        have hz4 : q.size ≤ 1100 := by omega
        generalize hzk : (k : Int) = z at *
        have HZ := Lib.hid hzk
        clear hs hk0 hk hlt hz3 hzk
        go_wp2_with fail
        go_quiet ((go_at_call 70; first | with_reducible exact Calls.quiet_of (hN1.out _) | with_reducible exact Calls.quiet_of (hN2.out _)))
        go_wp2
        go_roundw
        case rel => exact ⟨k + 1, HL.out, by rw [← HZ.out]; go_num, by rw [HE.out], hx0, hx1, Below.drewN' hb0 _⟩
        case measure => have h1 := HZ.out; have h2 := HL.out; simp only [intOf]; omega
      · have hne : treeL xs ys k ≠ [] := fun e => hk0 (by have := congrArg List.length e; rw [treeL_len] at this; exact this)
        have HE : Hid (jnB 32 (treeL xs ys k) ++ ⟨#[32]⟩ ++ itoaB (nth xs k) ++ ⟨#[58]⟩ ++ itoaB (nth ys k) = jnB 32 (treeL xs ys (k + 1))) := by
          refine Lib.hid ?_
          rw [treeL_next, jn_snoc hne]
          exact ba_ext (by simp [wordB])
        have hkp : (0 : Int) < (k : Int) := by omega
        generalize jnB 32 (treeL xs ys k) = q at *
        generalize itoaB (nth xs k) = p1 at *
        generalize itoaB (nth ys k) = p2 at *
        generalize nth xs k = x at *
        generalize nth ys k = y at *
        clear hs hk0 hne
        go_wp2_with fail
        go_quiet ((go_at_call 70; first | with_reducible exact Calls.quiet_of (hN1.out _) | with_reducible exact Calls.quiet_of (hN2.out _)))
        go_wp2
        go_roundw
        case rel => exact ⟨k + 1, by omega, by go_num, by rw [HE.out], hx0, hx1, Below.drewN' hb0 _⟩
        case measure => simp [intOf]; omega
    · have hkn : k = n := by omega
      have HY : Hid (jnB 32 (treeL xs ys k) = txB xs ys) := Lib.hid (by rw [hkn]; exact HX.out.symm)
      clear hkn
      generalize jnB 32 (treeL xs ys k) = q at *
      go_wp2
      go_ret
      exact ⟨ret_str HY.out, hb0⟩

theorem own_formSc {w : World} {B : Nat} {v : Value} {L : List ByteArray} {n : Nat} (h : w.ownsRow B 9 1 v n (strs L)) : ∃ A c, v = .slice A L.length c ∧ L.length ≤ c ∧ OwnSS w B A L := by
  have hl : L.length = n := by have := h.1; rw [strs_len] at this; omega
  subst hl
  rcases h.2 with ⟨rfl, h0⟩ | ⟨g, cap, cur, rfl, hg, hh, h1, h2, h3, h4⟩
  · exact ⟨none, 0, by rw [h0], by omega, .inl ⟨rfl, List.eq_nil_of_length_eq_zero h0⟩⟩
  · exact ⟨some ⟨g, 0, none⟩, cap, rfl, h1, .inr ⟨g, rfl, hg, cur, hh, cur.toList.drop (L.length * 1), by rw [← h4, List.take_append_drop]⟩⟩
theorem own_belowS {w w' : World} {B size n : Nat} {e : TypeId} {v : Value} {xs : List Value} (h : w.ownsRow B e size v n xs) (hb : Below w.heap.size w w') : w'.ownsRow B e size v n xs :=
  h.kept (row := none) ⟨hb.os, hb.tape, hb.output, hb.size, fun k hk _ => hb.block k hk⟩ (by cases hv : v.ownBlock <;> simp)
theorem grown_cellS {W w1 : World} {row : Option Nat} {p : Addr} {v : Value} (hg : W.grownBy w1 row) (h : W.cell? p = some v) (hr : row ≠ some p.block) : w1.cell? p = some v :=
  (World.cell?_of_block (hg.block p.block (World.block_lt_of_cell? W p h) (fun e => hr e.symm))).trans h
theorem own_neS {w : World} {B size n g : Nat} {e : TypeId} {v : Value} {xs : List Value} (h : w.ownsRow B e size v n xs) (hg : g < B) : v.ownBlock ≠ some g := fun e => by
  have := (h.lt g e).1; omega
theorem alloc_cellS {w : World} {a : Addr} {v : Value} (o : Obj) (h : w.cell? a = some v) : (w.alloc o).cell? a = some v := keep_cell ((Below.refl _ _).alloc (Nat.le_refl _) _) h
theorem itoa_c (n : Int) (h0 : -1000000 ≤ n) (h1 : n ≤ 1000000) : ∀ w, TabE w → Calls Tryz.prog 68 #[.int .i64 n] w fun e w' => e = .returned (.string (itoaB n)) ∧ Below w.heap.size w w' := fun w hT => itoa_any n w h0 h1 hT

set_option maxHeartbeats 2000000 in
set_option maxRecDepth 100000 in
theorem treeText_any (A B : Option Addr) (c e : Nat) (xs ys : List Int) (w : World) (h : IntS w A xs) (k : IntS w B ys) (hn : xs.length ≤ 24) (hn1 : 1 ≤ xs.length) (hm : ys.length = xs.length) (hs : SmallT xs ys) (hT : TabE w) :
    Calls Tryz.prog 45 #[.agg #[.slice A xs.length c, .slice B ys.length e]] w fun e w' => e = .returned (.string (txB xs ys)) ∧ Below w.heap.size w w' := by
  obtain ⟨i0, hi, hz0, hz1, hz2⟩ := infoS_parts
  obtain ⟨n, hn'⟩ : ∃ n, n = xs.length := ⟨_, rfl⟩
  have HX : Hid (txB xs ys = jnB 32 (treeL xs ys n)) := Lib.hid (by rw [hn']; rfl)
  have HJ : Hid (∀ (g cp : Nat) (w1 : World), n ≤ cp → RowS w1 g (treeL xs ys n) → Calls Tryz.prog 69 #[.slice (some ⟨g, 0, none⟩) n cp, .string ⟨#[32]⟩] w1 fun e w' => e = .returned (.string (txB xs ys)) ∧ Below w1.heap.size w1 w') := by
    refine Lib.hid fun g cp w1 hcp hr => ?_
    have hlen := treeL_len xs ys n
    have hne : treeL xs ys n ≠ [] := fun e => by rw [e] at hlen; simp at hlen; omega
    have hF := jnF_treeL xs ys hs n
    have hJ := Tryz.strings_Join g 0 cp (treeL xs ys n) ⟨#[32]⟩ w1 (fun j x hj => by rw [Nat.zero_add]; exact hr.cell hj) hr.lt (by omega) (by omega) (by
      have e : Lib.join ((treeL xs ys n).map (·.data.toList)) (⟨#[32]⟩ : ByteArray).data.toList = (jnF 32 (treeL xs ys n)).drop 1 := join_jnF 32 hne
      rw [e, List.length_drop]; omega)
    rw [hlen] at hJ
    refine hJ.mono ?_
    rintro e w' ⟨rfl, hb⟩
    exact ⟨by rw [join_lib hne, HX.out], hb⟩
  have HA := Lib.hid h
  have HB := Lib.hid k
  have HN := Lib.hid hn'
  have HM := Lib.hid (hm.trans hn'.symm)
  rw [← hn'] at hn hn1
  rw [hm, ← hn']
  clear h k hn' hm HX
  generalize txB xs ys = Z at *
  go_enter Tryz.func45, Tryz.ntmps45
  go_wp2
  go_loopw [3, 4, 5, 10] (fun v _ _ i wr => ∃ k : Nat, k ≤ n ∧ i = .int .i64 (k : Int) ∧ wr.ownsRow (w.heap.size + 1) 9 1 v k (strs (treeL xs ys k)) ∧ wr.cell? ⟨w.heap.size, 0, none⟩ = some (.slice A n c) ∧ wr.cell? ⟨w.heap.size, 1, none⟩ = some (.slice B n e) ∧ Below w.heap.size w wr) (fun _ _ _ i _ => n - (intOf i).toNat)
  case atStart => exact ⟨0, Nat.zero_le _, rfl, own_emptyS _ _ _ (by simp) (by simp), by simp, by simp, by (repeat (first | with_reducible exact Below.refl _ _ | with_reducible assumption | with_reducible refine Below.alloc' ?_ ?_ _ | with_reducible refine Below.setCell' ?_ ?_ _ | with_reducible refine Below.drewN' ?_ _ | with_reducible refine Below.drew ?_ | with_reducible refine Below.transA ?_ (by assumption) ?_ | omega | (focus (simp; done)) | (focus (simp; omega))))⟩
  case round =>
    obtain ⟨k, hk, rfl, hown, hx0, hx1, hb0⟩ := hrel
    by_cases hlt : k < n
    · obtain ⟨b1, o1, rfl, hc1⟩ := (HA.out.below hb0).at_ (j := k) (by rw [← HN.out]; exact hlt)
      obtain ⟨b2, o2, rfl, hc20⟩ := HB.out.at_ (j := k) (by rw [HM.out]; exact hlt)
      have hc2 := keep_cell hb0 hc20
      have hp := (hs k).1
      have hq := (hs k).2
      have hN1 := Lib.hid (itoa_c (nth xs k) hp.1 hp.2)
      have hN2 := Lib.hid (itoa_c (nth ys k) hq.1 hq.2)
      have hz1' := itoaB_size _ hp.1 hp.2
      have hz2' := itoaB_size _ hq.1 hq.2
      have i0' : (0 : Int) ≤ (k : Int) := by omega
      have i1' : (k : Int) < (n : Int) := by omega
      have hnx := Lib.hid (treeL_next xs ys k)
      unfold wordB at hnx
      have hT0 := hT.below hb0
      have hw0 : w.heap.size < wr.heap.size := World.block_lt_of_cell? _ _ hx0
      have hb2w : b2 < w.heap.size := World.block_lt_of_cell? w _ hc20
      clear hc20
      generalize itoaB (nth xs k) = p1 at *
      generalize itoaB (nth ys k) = p2 at *
      generalize nth xs k = x at *
      generalize nth ys k = y at *
      clear hs
      have hw := hb0
      have hsd : ¬ 9223372036854775807 < p1.size + 1 := by omega
      have hse : ¬ 9223372036854775807 < p1.size + 1 + p2.size := by omega
      have hsf : ¬ 9223372036854775807 < (p1 ++ (⟨#[58]⟩ : ByteArray)).size + p2.size := by rw [ByteArray.size_append]; exact hse
      go_wp2
      refine wp_region_held_drew (S := fun w' => w'.cell? ⟨w.heap.size, 0, none⟩ = some (.slice (some ⟨b1, o1, none⟩) n c) ∧ w'.cell? ⟨w.heap.size, 1, none⟩ = some (.slice (some ⟨b2, o2, none⟩) n e) ∧ w'.cell? ⟨b2, o2 + k, none⟩ = some (.int .i64 y) ∧ Below w.heap.size w w') (by kernel_rfl) ⟨hx0, hx1, hc2, hw.drew⟩ (fun hHeld => ?_)
      refine wpAnyH_take (i := 0) (oi := ?oo1) (v := ?vv1) ?hi1 (by kernel_rfl) (by kernel_rfl) (by kernel_rfl) ?hq1 (Or.inl ⟨?hg1, ?hy1⟩) (by assumption) ?rest1
      case hi1 => simp only [List.getElem?_toArray, List.getElem?_cons_zero]; rfl
      case hq1 => exact fun _ _ _ h => h
      case hg1 => rfl
      case hy1 =>
        intro wq hSw
        obtain ⟨hx0, hx1, hc2, hw⟩ := hSw
        go_simp
        (try with_reducible rfl)
      (try simp only [Act.put, List.setIfInBounds_toArray, List.set_cons_zero, List.set_cons_succ])
      refine wpAnyH_take (i := 1) (oi := ?oo2) (v := ?vv2) ?hi2 (by kernel_rfl) (by kernel_rfl) (by kernel_rfl) ?hq2 (Or.inl ⟨?hg2, ?hy2⟩) (by assumption) ?rest2
      case hi2 => simp only [List.getElem?_toArray, List.getElem?_cons_zero, List.getElem?_cons_succ]; rfl
      case hq2 => exact fun _ _ _ h => h
      case hg2 => rfl
      case hy2 =>
        intro wq hSw
        obtain ⟨hx0, hx1, hc2, hw⟩ := hSw
        go_simp
        (try with_reducible rfl)
      (try simp only [Act.put, List.setIfInBounds_toArray, List.set_cons_zero, List.set_cons_succ])
      refine wpAnyH_take (i := 4) (oi := ?oo3) (v := ?vv3) ?hi3 (by kernel_rfl) (by kernel_rfl) (by kernel_rfl) ?hq3 (Or.inl ⟨?hg3, ?hy3⟩) (by assumption) ?rest3
      case hi3 => simp only [List.getElem?_toArray, List.getElem?_cons_zero, List.getElem?_cons_succ]; rfl
      case hq3 => exact fun _ _ _ h => h
      case hg3 => rfl
      case hy3 =>
        intro wq hSw
        obtain ⟨hx0, hx1, hc2, hw⟩ := hSw
        go_simp
        (try with_reducible rfl)
      (try simp only [Act.put, List.setIfInBounds_toArray, List.set_cons_zero, List.set_cons_succ])
      refine wpAnyH_take (i := 5) (oi := ?oo4) (v := ?vv4) ?hi4 (by kernel_rfl) (by kernel_rfl) (by kernel_rfl) ?hq4 (Or.inl ⟨?hg4, ?hy4⟩) (by assumption) ?rest4
      case hi4 => simp only [List.getElem?_toArray, List.getElem?_cons_zero, List.getElem?_cons_succ]; rfl
      case hq4 => exact fun _ _ _ h => h
      case hg4 => rfl
      case hy4 =>
        intro wq hSw
        obtain ⟨hx0, hx1, hc2, hw⟩ := hSw
        go_simp
        (try with_reducible rfl)
      (try simp only [Act.put, List.setIfInBounds_toArray, List.set_cons_zero, List.set_cons_succ])
      refine wpAnyH_take (i := 6) (oi := ?oo5) (v := ?vv5) ?hi5 (by kernel_rfl) (by kernel_rfl) (by kernel_rfl) ?hq5 (Or.inl ⟨?hg5, ?hy5⟩) (by assumption) ?rest5
      case hi5 => simp only [List.getElem?_toArray, List.getElem?_cons_zero, List.getElem?_cons_succ]; rfl
      case hq5 => exact fun _ _ _ h => h
      case hg5 => rfl
      case hy5 =>
        intro wq hSw
        obtain ⟨hx0, hx1, hc2, hw⟩ := hSw
        go_simp
        (try with_reducible rfl)
      (try simp only [Act.put, List.setIfInBounds_toArray, List.set_cons_zero, List.set_cons_succ])
      refine wpAnyH_take (i := 7) (oi := ?oo6) (v := ?vv6) ?hi6 (by kernel_rfl) (by kernel_rfl) (by kernel_rfl) ?hq6 (Or.inl ⟨?hg6, ?hy6⟩) (by assumption) ?rest6
      case hi6 => simp only [List.getElem?_toArray, List.getElem?_cons_zero, List.getElem?_cons_succ]; rfl
      case hq6 => exact fun _ _ _ h => h
      case hg6 => rfl
      case hy6 =>
        intro wq hSw
        obtain ⟨hx0, hx1, hc2, hw⟩ := hSw
        go_simp
        (try with_reducible rfl)
      (try simp only [Act.put, List.setIfInBounds_toArray, List.set_cons_zero, List.set_cons_succ])
      refine wpAnyH_take (i := 8) (oi := ?oo7) (v := ?vv7) ?hi7 (by kernel_rfl) (by kernel_rfl) (by kernel_rfl) ?hq7 (Or.inl ⟨?hg7, ?hy7⟩) (by assumption) ?rest7
      case hi7 => simp only [List.getElem?_toArray, List.getElem?_cons_zero, List.getElem?_cons_succ]; rfl
      case hq7 => exact fun _ _ _ h => h
      case hg7 => rfl
      case hy7 =>
        intro wq hSw
        obtain ⟨hx0, hx1, hc2, hw⟩ := hSw
        go_simp
        (try with_reducible rfl)
      (try simp only [Act.put, List.setIfInBounds_toArray, List.set_cons_zero, List.set_cons_succ])
      refine wpAnyH_ready (rs := [2]) (by kernel_rfl) (by simp) ?_
      refine AllReadyH.cons (i := 2) (o := ?oo8) ?ho8 (fun K9 hK9 => ?hstep8) AllReadyH.nil
      case ho8 => simp only [List.getElem?_toArray, List.getElem?_cons_zero, List.getElem?_cons_succ]; rfl
      go_simp
      refine (hN1.out _ (by exact hT0)).mono ?_
      rintro e1 wz8 ⟨rfl, hb⟩
      replace hb : Below wr.heap.size wr wz8 := ⟨hb.os, hb.tape, hb.output, hb.size, hb.block⟩
      replace hx0 := keep_cell hb hx0
      replace hx1 := keep_cell hb hx1
      replace hc2 := keep_cell hb hc2
      replace hown := own_below hown hb
      replace hT0 := hT0.below hb
      replace hw := keep_below hb hw
      clear hHeld
      go_wp2_with fail
      refine hK9.out _ _ ⟨hx0, hx1, hc2, hw⟩ (fun hHeld => ?_)
      clear hK9 K9 hb
      (try simp only [Act.put, List.setIfInBounds_toArray, List.set_cons_zero, List.set_cons_succ])
      refine wpAnyH_take (i := 3) (oi := ?oo9) (v := ?vv9) ?hi9 (by kernel_rfl) (by kernel_rfl) (by kernel_rfl) ?hq9 (Or.inl ⟨?hg9, ?hy9⟩) (by assumption) ?rest9
      case hi9 => simp only [List.getElem?_toArray, List.getElem?_cons_zero, List.getElem?_cons_succ]; rfl
      case hq9 => exact fun _ _ _ h => h
      case hg9 => rfl
      case hy9 =>
        intro wq hSw
        obtain ⟨hx0, hx1, hc2, hw⟩ := hSw
        go_simp
        (try with_reducible rfl)
      (try simp only [Act.put, List.setIfInBounds_toArray, List.set_cons_zero, List.set_cons_succ])
      refine wpAnyH_ready (rs := [9]) (by kernel_rfl) (by simp) ?_
      refine AllReadyH.cons (i := 9) (o := ?oo10) ?ho10 (fun K9 hK9 => ?hstep10) AllReadyH.nil
      case ho10 => simp only [List.getElem?_toArray, List.getElem?_cons_zero, List.getElem?_cons_succ]; rfl
      go_simp
      refine (hN2.out _ (by exact hT0)).mono ?_
      rintro e1 wz10 ⟨rfl, hb⟩
      replace hx0 := keep_cell hb hx0
      replace hx1 := keep_cell hb hx1
      replace hc2 := keep_cell hb hc2
      replace hown := own_below hown hb
      replace hT0 := hT0.below hb
      replace hw := keep_below hb hw
      clear hHeld
      go_wp2_with fail
      refine hK9.out _ _ ⟨hx0, hx1, hc2, hw⟩ (fun hHeld => ?_)
      clear hK9 K9 hb
      (try simp only [Act.put, List.setIfInBounds_toArray, List.set_cons_zero, List.set_cons_succ])
      refine wpAnyH_take (i := 10) (oi := ?oo11) (v := ?vv11) ?hi11 (by kernel_rfl) (by kernel_rfl) (by kernel_rfl) ?hq11 (Or.inl ⟨?hg11, ?hy11⟩) (by assumption) ?rest11
      case hi11 => simp only [List.getElem?_toArray, List.getElem?_cons_zero, List.getElem?_cons_succ]; rfl
      case hq11 => exact fun _ _ _ h => h
      case hg11 => rfl
      case hy11 =>
        intro wq hSw
        obtain ⟨hx0, hx1, hc2, hw⟩ := hSw
        go_simp
        (try with_reducible rfl)
      (try simp only [Act.put, List.setIfInBounds_toArray, List.set_cons_zero, List.set_cons_succ])
      refine wpAnyH_ready (rs := [11]) (by kernel_rfl) (by simp) ?_
      refine AllReadyH.cons (i := 11) (o := ?oo12) ?ho12 (fun K9 hK9 => ?hstep12) AllReadyH.nil
      case ho12 => simp only [List.getElem?_toArray, List.getElem?_cons_zero, List.getElem?_cons_succ]; rfl
      go_simp
      clear hHeld
      refine hK9.out _ _ ⟨keep_cell ((Below.refl wz10.heap.size wz10).alloc (Nat.le_refl _) _) hx0, keep_cell ((Below.refl wz10.heap.size wz10).alloc (Nat.le_refl _) _) hx1, keep_cell ((Below.refl wz10.heap.size wz10).alloc (Nat.le_refl _) _) hc2, keep_below_alloc hw _⟩ (fun hHeld => ?_)
      clear hK9 K9
      (try simp only [Act.put, List.setIfInBounds_toArray, List.set_cons_zero, List.set_cons_succ])
      refine wpAnyH_name hHeld (fun wa12 hHa hwz => ?_)
      have hbA : Below wz10.heap.size wz10 wa12 := by rw [hwz]; exact (Below.refl wz10.heap.size wz10).alloc (Nat.le_refl _) _
      have hnw : ∀ j u, [Value.string (p1 ++ ⟨#[58]⟩ ++ p2)][j]? = some u → wa12.cell? ((⟨wz10.heap.size, 0, none⟩ : Addr).add j) = some u := by rw [hwz]; exact World.news_of_block (cs := #[.string (p1 ++ ⟨#[58]⟩ ++ p2)]) (t := 9) (fr := (0, 0)) (heap_alloc_new _ _)
      replace hx0 := keep_cell hbA hx0
      replace hx1 := keep_cell hbA hx1
      replace hc2 := keep_cell hbA hc2
      replace hown := own_below hown hbA
      replace hT0 := hT0.below hbA
      replace hw := keep_below hbA hw
      generalize wz10.heap.size = gn at hnw ⊢
      clear hHeld hbA hwz
      have hHeld := hHa
      clear hHa
      refine wpAnyH_ready (rs := [12]) (by kernel_rfl) (by simp) ?_
      refine AllReadyH.cons (i := 12) (o := ?oo13) ?ho13 (fun K9 hK9 => ?hstep13) AllReadyH.nil
      case ho13 => simp only [List.getElem?_toArray, List.getElem?_cons_zero, List.getElem?_cons_succ]; rfl
      clear hHeld
      refine step_append_elder _ (by rfl) _ _ 61 (by rfl) (w.heap.size + 1) 9 i0 (.string ByteArray.empty) 1 16 Tryz.underlying61 hi hz0 hz1 hz2 rfl (by decide) _ _ _ (by rfl) hown ⟨gn, 0, none⟩ 1 1 [.string (p1 ++ ⟨#[58]⟩ ++ p2)] (by rfl) rfl hnw (by simp [Value.oneCell']) (by unfold maxLen; omega) (by omega) (World.block_lt_of_cell? _ _ hx0) ?_
      intro v' wp13 hown1 hgrow hat hel
      replace hx0 := grown_cellS hgrow hx0 (own_neS hown (Nat.lt_succ_self _))
      replace hx1 := grown_cellS hgrow hx1 (own_neS hown (Nat.lt_succ_self _))
      replace hc2 := grown_cellS hgrow hc2 (own_neS hown (Nat.lt_succ_of_lt hb2w))
      replace hw := Below.grown hw hgrow hw.size (fun g hg => by have := (hown.lt g hg).1; omega)
      replace hown := hown1
      clear hown1 hgrow hat hel hnw hc1
      refine hK9.out _ _ ⟨hx0, hx1, hc2, hw⟩ (fun hHeld => ?_)
      clear hK9 K9
      (try simp only [Act.put, List.setIfInBounds_toArray, List.set_cons_zero, List.set_cons_succ])
      refine wpAnyH_take (i := 13) (oi := ?oo14) (v := ?vv14) ?hi14 (by kernel_rfl) (by kernel_rfl) (by kernel_rfl) ?hq14 (Or.inl ⟨?hg14, ?hy14⟩) (by assumption) ?rest14
      case hi14 => simp only [List.getElem?_toArray, List.getElem?_cons_zero, List.getElem?_cons_succ]; rfl
      case hq14 => exact fun _ _ _ h => h
      case hg14 => rfl
      case hy14 =>
        intro wq hSw
        obtain ⟨hx0, hx1, hc2, hw⟩ := hSw
        go_simp
        (try with_reducible rfl)
      (try simp only [Act.put, List.setIfInBounds_toArray, List.set_cons_zero, List.set_cons_succ])
      clear hHeld
      refine wpAnyH_done (by kernel_rfl) ?_ _
      replace hown : wp13.ownsRow (w.heap.size + 1) 9 1 v' (k + 1) (strs (treeL xs ys (k + 1))) := by rw [hnx.out, strs_app]; exact hown
      clear hT0 hc2
      go_wp2
      go_roundw
      case rel => exact ⟨k + 1, by omega, by go_num, hown, hx0, hx1, hw⟩
      case measure => simp [intOf]; omega
    · have hkn : k = n := by omega
      rw [hkn] at hown
      obtain ⟨A', c', rfl, hcc, hO⟩ := own_formSc hown
      rw [treeL_len] at hcc
      obtain ⟨g, rfl, hg, hr⟩ := hO.pos (by rw [treeL_len]; exact hn1)
      have hJ2 := Lib.hid (HJ.out g c' wr hcc hr)
      have hlen := treeL_len xs ys n
      rw [hlen]
      clear hkn hown hO hr HJ hcc hs hlen
      go_wp2_with fail
      refine hJ2.out.mono ?_
      rintro e1 w2 ⟨rfl, hb2⟩
      go_wp2
      go_ret
      exact ⟨rfl, keep_below hb2 hb0⟩
end Go.Proofs.YtgccidkkfalaeaaGreatDoor
/- Plain: the tree that a text is: its words, each with two numbers and one byte between. -/
namespace Go.Proofs.YtgccidkkfalaeaaGreatDoor

/-- The text behind the first such byte. -/
def tailL (c : UInt8) (l : List UInt8) : List UInt8 := (l.dropWhile (· != c)).drop 1
theorem parts_tail (c : UInt8) (l : List UInt8) : parts c l = headL c l :: (if c ∈ l then parts c (tailL c l) else []) := by
  induction l with
  | nil => rfl
  | cons x l ih =>
    by_cases h : x = c
    · subst h; rw [parts_hit]; simp [headL, tailL]
    · rw [parts_miss h, ih]
      have e1 : headL c (x :: l) = x :: headL c l := by simp [headL, h]
      have e2 : tailL c (x :: l) = tailL c l := by simp [tailL, h]
      have e3 : (c ∈ x :: l) ↔ c ∈ l := by simp [Ne.symm h]
      rw [e1, e2]
      simp only [glue, e3, List.cons_append, List.nil_append]
theorem tail_none {c : UInt8} {l : List UInt8} (h : c ∉ l) : tailL c l = [] := by
  unfold tailL
  induction l with
  | nil => rfl
  | cons x l ih =>
    have hx : x ≠ c := fun e => h (by simp [e])
    rw [List.dropWhile_cons, if_pos (by simpa using hx)]
    exact ih fun e => h (by simp [e])
theorem cut_tail (c : UInt8) (l : List UInt8) : (Lib.cut l [c]).2.1 = tailL c l := by
  unfold Lib.cut
  rw [Lib.index_one]
  split <;> rename_i h
  · have hc := (indexByte_mem l c).1 h
    induction l with
    | nil => simp at hc
    | cons x l ih =>
      by_cases hx : x = c
      · subst hx; simp [Lib.indexByte, tailL]
      · have hc' : c ∈ l := by simpa [Ne.symm hx] using hc
        have h' := (indexByte_mem l c).2 hc'
        have e1 : (x == c) = false := by simpa using hx
        have e2 : (Lib.indexByte l c == -1) = false := by rw [beq_eq_false_iff_ne]; omega
        have e3 : Lib.indexByte (x :: l) c = Lib.indexByte l c + 1 := by rw [Lib.indexByte, e1, e2]; rfl
        have e4 : (Lib.indexByte l c + 1).toNat + [c].length = ((Lib.indexByte l c).toNat + [c].length) + 1 := by simp; omega
        have := ih h' hc'
        dsimp only at this
        simp only [e3, e4, List.drop_succ_cons]
        rw [this]
        simp [tailL, hx]
  · exact (tail_none fun hc => h ((indexByte_mem l c).2 hc)).symm
theorem tail_le (c : UInt8) (l : List UInt8) : (tailL c l).length ≤ l.length := by
  unfold tailL
  have := (List.dropWhile_suffix (p := (· != c)) (l := l)).length_le
  rw [List.length_drop]; omega
theorem itoa_not (n : Int) {c : UInt8} (hc : c.toNat < 45 ∨ 57 < c.toNat) : c ∉ Lib.itoa n := by
  by_cases hn : 0 ≤ n
  · obtain ⟨u, rfl⟩ := Int.eq_ofNat_of_zero_le hn
    rw [Lib.itoa_nonneg]
    intro h
    have := decDigits_byte u h
    omega
  · obtain ⟨u, rfl⟩ : ∃ u : Nat, n = -(u : Int) := ⟨n.natAbs, by omega⟩
    rw [Lib.itoa_neg u (by omega)]
    intro h
    rcases List.mem_cons.1 h with h | h
    · subst h; exact absurd hc (by decide)
    · have := decDigits_byte u h
      omega
theorem rd_no {l : List UInt8} {c : UInt8} (hc : c.toNat < 45 ∨ 57 < c.toNat) (h : c ∈ l) : rdL l = none := by
  refine rdL_none fun n hn => ?_
  exact itoa_not n hc (by rw [hn.2.2]; exact h)
theorem rd_nil : rdL [] = none := by
  refine rdL_none fun n hn => ?_
  have := (isNum_atoi hn).2.1
  simp at this
theorem rd_bd {l : List UInt8} {n : Int} (h : rdL l = some n) : -999999 ≤ n ∧ n ≤ 999999 := ⟨(rdL_isNum h).1, (rdL_isNum h).2.1⟩

/-- The first and the second number of a word; both there. -/
noncomputable def wX (l : List UInt8) : Int := (rdL (headL 58 l)).getD 0
noncomputable def wY (l : List UInt8) : Int := (rdL (tailL 58 l)).getD 0
noncomputable def wOk (l : List UInt8) : Bool := (rdL (headL 58 l)).isSome && (rdL (tailL 58 l)).isSome
theorem wX_bd (l : List UInt8) : -999999 ≤ wX l ∧ wX l ≤ 999999 := by
  unfold wX
  cases h : rdL (headL 58 l) with
  | none => simp
  | some n => exact rd_bd h
theorem wY_bd (l : List UInt8) : -999999 ≤ wY l ∧ wY l ≤ 999999 := by
  unfold wY
  cases h : rdL (tailL 58 l) with
  | none => simp
  | some n => exact rd_bd h
/-- Two parts exactly: they are head and tail; otherwise the word is bad. -/
theorem wOk_two {l : List UInt8} (h : wOk l = true) : parts 58 l = [headL 58 l, tailL 58 l] := by
  unfold wOk at h
  rw [Bool.and_eq_true] at h
  have h2 : (58 : UInt8) ∉ tailL 58 l := fun e => by have := rd_no (c := 58) (.inr (by decide)) e; rw [this] at h; exact absurd h.2 (by simp)
  have h1 : (58 : UInt8) ∈ l := by
    apply Classical.byContradiction
    intro e
    rw [tail_none e, rd_nil] at h
    exact absurd h.2 (by simp)
  rw [parts_tail, if_pos h1, parts_tail 58 (tailL 58 l), if_neg h2, head_self h2]
theorem parts_two {l : List UInt8} (h : (parts 58 l).length = 2) : parts 58 l = [headL 58 l, tailL 58 l] := by
  rw [parts_tail] at h
  by_cases h1 : (58 : UInt8) ∈ l
  · rw [if_pos h1, parts_tail 58 (tailL 58 l)] at h
    by_cases h2 : (58 : UInt8) ∈ tailL 58 l
    · rw [if_pos h2] at h
      have := parts_ne 58 (tailL 58 (tailL 58 l))
      cases hp : parts 58 (tailL 58 (tailL 58 l)) with
      | nil => exact absurd hp this
      | cons a b => rw [hp] at h; simp at h
    · rw [parts_tail, if_pos h1, parts_tail 58 (tailL 58 l), if_neg h2, head_self h2]
  · rw [if_neg h1] at h; simp at h
theorem wOk_len {l : List UInt8} (h : wOk l = true) : (parts 58 l).length = 2 := by rw [wOk_two h]; rfl

/-- The numbers of the first words. -/
noncomputable def pX (L : List ByteArray) : List Int := L.map fun b => wX b.data.toList
noncomputable def pY (L : List ByteArray) : List Int := L.map fun b => wY b.data.toList
theorem pX_next {L : List ByteArray} {k : Nat} {b : ByteArray} (h : L[k]? = some b) : pX (L.take (k + 1)) = pX (L.take k) ++ [wX b.data.toList] := by rw [take_next h]; simp [pX]
theorem pY_next {L : List ByteArray} {k : Nat} {b : ByteArray} (h : L[k]? = some b) : pY (L.take (k + 1)) = pY (L.take k) ++ [wY b.data.toList] := by rw [take_next h]; simp [pY]
theorem pX_len {L : List ByteArray} {k : Nat} (h : k ≤ L.length) : (pX (L.take k)).length = k := by simp [pX]; omega
theorem pY_len {L : List ByteArray} {k : Nat} (h : k ≤ L.length) : (pY (L.take k)).length = k := by simp [pY]; omega
theorem nth_map_bd {f : ByteArray → Int} (hf : ∀ b, -1000000 ≤ f b ∧ f b ≤ 1000000) (L : List ByteArray) (j : Nat) : -1000000 ≤ nth (L.map f) j ∧ nth (L.map f) j ≤ 1000000 := by
  unfold nth
  by_cases h : j < L.length
  · rw [List.getD, List.getElem?_map, List.getElem?_eq_getElem h]; exact hf _
  · rw [List.getD, List.getElem?_eq_none (by simp; omega)]; exact ⟨by decide, by decide⟩
theorem p_small (L : List ByteArray) : SmallT (pX L) (pY L) := fun j =>
  ⟨nth_map_bd (fun b => by have := wX_bd b.data.toList; omega) L j, nth_map_bd (fun b => by have := wY_bd b.data.toList; omega) L j⟩
/-- The tree of the text s, if it is one's. -/
noncomputable def ptX (s : ByteArray) : List Int := pX (partsB 32 s)
noncomputable def ptY (s : ByteArray) : List Int := pY (partsB 32 s)
def ptOk (s : ByteArray) : Prop := (∀ b ∈ partsB 32 s, wOk b.data.toList = true) ∧ good (ptX s) (ptY s) = true ∧ txB (ptX s) (ptY s) = s
theorem ptOk_len {s : ByteArray} (h : ptOk s) : (partsB 32 s).length ≤ 24 := by
  have := (good_len h.2.1).2.1
  unfold ptX pX at this
  rw [List.length_map] at this; exact this
end Go.Proofs.YtgccidkkfalaeaaGreatDoor
/- Plain: a valid tree's text, read, is that tree. -/
namespace Go.Proofs.YtgccidkkfalaeaaGreatDoor

theorem parts_free {c : UInt8} {l : List UInt8} (h : c ∉ l) : parts c l = [l] := by
  induction l with
  | nil => rfl
  | cons x l ih =>
    have hx : x ≠ c := fun e => h (by simp [e])
    rw [parts_miss hx, ih fun e => h (by simp [e])]; rfl
theorem parts_app {c : UInt8} {l : List UInt8} (h : c ∉ l) (X : List UInt8) : parts c (l ++ c :: X) = l :: parts c X := by
  induction l with
  | nil => rw [List.nil_append, parts_hit]
  | cons x l ih =>
    have hx : x ≠ c := fun e => h (by simp [e])
    rw [List.cons_append, parts_miss hx, ih fun e => h (by simp [e])]; rfl
theorem parts_jnF {c : UInt8} : ∀ (L : List ByteArray), L ≠ [] → (∀ b ∈ L, c ∉ b.data.toList) → parts c ((jnF c L).drop 1) = L.map (·.data.toList)
  | [], h, _ => absurd rfl h
  | [b], _, h => by
    have e : (jnF c [b]).drop 1 = b.data.toList := by simp [jnF]
    rw [e, parts_free (h b (by simp))]; rfl
  | b :: b2 :: M, _, h => by
    have ih := parts_jnF (c := c) (b2 :: M) (by simp) fun x hx => h x (by simp at hx ⊢; exact .inr hx)
    have e : (jnF c (b :: b2 :: M)).drop 1 = b.data.toList ++ c :: (jnF c (b2 :: M)).drop 1 := by simp [jnF]
    rw [e, parts_app (h b (by simp)), ih]; rfl
theorem partsB_jnB {c : UInt8} {L : List ByteArray} (h0 : L ≠ []) (h : ∀ b ∈ L, c ∉ b.data.toList) : partsB c (jnB c L) = L := by
  unfold partsB jnB
  rw [mkB_list, parts_jnF L h0 h, List.map_map]
  conv => rhs; rw [← List.map_id L]
  exact List.map_congr_left fun b _ => mkB_data b
theorem wordB_list (p q : Int) : (wordB p q).data.toList = Lib.itoa p ++ 58 :: Lib.itoa q := by simp [wordB, itoaB]
theorem headQ_app {c : UInt8} {l : List UInt8} (h : c ∉ l) (r : List UInt8) : headL c (l ++ c :: r) = l := by
  induction l with
  | nil => simp [headL]
  | cons x l ih =>
    have hx : x ≠ c := fun e => h (by simp [e])
    have := ih fun e => h (by simp [e])
    unfold headL at this ⊢
    rw [List.cons_append, List.takeWhile_cons, if_pos (by simpa using hx), this]
theorem tailQ_app {c : UInt8} {l : List UInt8} (h : c ∉ l) (r : List UInt8) : tailL c (l ++ c :: r) = r := by
  unfold tailL
  induction l with
  | nil => simp
  | cons x l ih =>
    have hx : x ≠ c := fun e => h (by simp [e])
    rw [List.cons_append, List.dropWhile_cons, if_pos (by simpa using hx)]
    exact ih fun e => h (by simp [e])
theorem word_read {p q : Int} (hp : -999999 ≤ p ∧ p ≤ 999999) (hq : -999999 ≤ q ∧ q ≤ 999999) : wX (wordB p q).data.toList = p ∧ wY (wordB p q).data.toList = q ∧ wOk (wordB p q).data.toList = true ∧ (32 : UInt8) ∉ (wordB p q).data.toList := by
  have h58 := itoa_not p (c := 58) (.inr (by decide))
  have e1 : headL 58 (wordB p q).data.toList = Lib.itoa p := by rw [wordB_list, headQ_app h58]
  have e2 : tailL 58 (wordB p q).data.toList = Lib.itoa q := by rw [wordB_list, tailQ_app h58]
  refine ⟨?_, ?_, ?_, ?_⟩
  · unfold wX; rw [e1, rd_fmt hp.1 hp.2]; rfl
  · unfold wY; rw [e2, rd_fmt hq.1 hq.2]; rfl
  · unfold wOk; rw [e1, e2, rd_fmt hp.1 hp.2, rd_fmt hq.1 hq.2]; rfl
  · rw [wordB_list]
    intro h
    rcases List.mem_append.1 h with h | h
    · exact itoa_not p (c := 32) (.inl (by decide)) h
    · rcases List.mem_cons.1 h with h | h
      · exact absurd h (by decide)
      · exact itoa_not q (c := 32) (.inl (by decide)) h
theorem range_nth (xs : List Int) : (List.range xs.length).map (nth xs) = xs := by
  refine List.ext_getElem (by simp) fun j h1 h2 => ?_
  simp [nth, List.getD, h2]
/-- A valid tree's text, read, is that tree. -/
theorem parse_text {xs ys : List Int} (hg : good xs ys = true) : ptOk (txB xs ys) ∧ ptX (txB xs ys) = xs ∧ ptY (txB xs ys) = ys := by
  have hl := good_len hg
  have hb : ∀ j, j < xs.length → (-999999 ≤ nth xs j ∧ nth xs j ≤ 999999) ∧ (-999999 ≤ nth ys j ∧ nth ys j ≤ 999999) := by
    intro j hj
    have hy := good_wtT hg j
    refine ⟨?_, by omega⟩
    by_cases e : j = 0
    · subst e; have := (good_iff.1 hg).1.2.2; omega
    · have := up_natT (good_iff.1 hg).2.1 (by omega) hj; omega
  have hm : ∀ b ∈ treeL xs ys xs.length, ∃ j, j < xs.length ∧ b = wordB (nth xs j) (nth ys j) := fun b h => by
    unfold treeL at h
    obtain ⟨j, hj, rfl⟩ := List.mem_map.1 h
    exact ⟨j, List.mem_range.1 hj, rfl⟩
  have hne : treeL xs ys xs.length ≠ [] := fun e => by have := treeL_len xs ys xs.length; rw [e] at this; simp at this; omega
  have hp : partsB 32 (txB xs ys) = treeL xs ys xs.length := partsB_jnB hne fun b h => by
    obtain ⟨j, hj, rfl⟩ := hm b h
    exact (word_read (hb j hj).1 (hb j hj).2).2.2.2
  have hX : ptX (txB xs ys) = xs := by
    unfold ptX pX; rw [hp]; unfold treeL; rw [List.map_map]
    conv => rhs; rw [← range_nth xs]
    exact List.map_congr_left fun j h => (word_read (hb j (List.mem_range.1 h)).1 (hb j (List.mem_range.1 h)).2).1
  have hY : ptY (txB xs ys) = ys := by
    unfold ptY pY; rw [hp]; unfold treeL; rw [List.map_map]
    conv => rhs; rw [← range_nth ys, hl.2.2]
    exact List.map_congr_left fun j h => (word_read (hb j (List.mem_range.1 h)).1 (hb j (List.mem_range.1 h)).2).2.1
  refine ⟨⟨fun b h => ?_, by rw [hX, hY]; exact hg, by rw [hX, hY]⟩, hX, hY⟩
  rw [hp] at h
  obtain ⟨j, hj, rfl⟩ := hm b h
  exact (word_read (hb j hj).1 (hb j hj).2).2.2.1
end Go.Proofs.YtgccidkkfalaeaaGreatDoor
/- TreeText: what the reference's and the program's return. -/
namespace Go.Proofs.YtgccidkkfalaeaaGreatDoor
open Go.ChangeShapes Go.WideShapes Go.ChangeAt Go.RowKit
open Go.ChangeMaps (open_string shut_string)

noncomputable def txV (xs ys : List Int) : Value := if good xs ys then .tuple #[.string (txB xs ys), .bool true] else .tuple #[.string ⟨#[]⟩, .bool false]

set_option maxRecDepth 100000 in
theorem specTreeText_any (A B : Option Addr) (c e : Nat) (xs ys : List Int) (w : World) (h : IntS w A xs) (k : IntS w B ys) (hx : Bd xs) (hy : Bd ys) (hn : xs.length ≤ 1048576) (hm : ys.length ≤ 1048576) :
    Calls Tryz.prog 17 #[.agg #[.slice A xs.length c, .slice B ys.length e]] w fun e' w' => e' = .returned (txV xs ys) ∧ Below w.heap.size w w' := by
  have HL := Lib.hid (fun W (h : IntS W A xs) (k : IntS W B ys) => l2Good_any A B c e xs ys W h k hx hy hn hm)
  unfold txV
  clear hx hy
  cases hg : good xs ys
  · rw [hg] at HL
    clear hg
    rw [if_neg Bool.false_ne_true]
    go_enter Tryz.func17, Tryz.ntmps17
    go_wp2_with fail
    refine (HL.out _ (h.alloc _) (k.alloc _)).mono ?_
    rintro e1 w1 ⟨rfl, hb1⟩
    replace hb1 := below_alloc hb1
    go_wp2
    go_ret2
    exact ⟨rfl, hb1⟩
  · have hl := good_len hg
    have HT := Lib.hid (fun W (h : IntS W A xs) (k : IntS W B ys) => l2Text_any A B c e xs ys W h k hl.2.1 hl.2.2 (good_small hg))
    rw [hg] at HL
    clear hg hl
    rw [if_pos rfl]
    generalize txB xs ys = Z at *
    go_enter Tryz.func17, Tryz.ntmps17
    go_wp2_with fail
    refine (HL.out _ (h.alloc _) (k.alloc _)).mono ?_
    rintro e1 w1 ⟨rfl, hb1⟩
    have hx0 : w1.cell? ⟨w.heap.size, 0, none⟩ = some (.slice A xs.length c) := keep_cell hb1 (cell_new _ _ _ _ _ rfl)
    have hx1 : w1.cell? ⟨w.heap.size, 1, none⟩ = some (.slice B ys.length e) := keep_cell hb1 (cell_new _ _ _ _ _ rfl)
    replace hb1 := below_alloc hb1
    go_wp2_with fail
    refine (HT.out _ (h.below hb1) (k.below hb1)).mono ?_
    rintro e2 w2 ⟨rfl, hb2⟩
    go_wp2
    go_ret2
    exact ⟨rfl, keep_below hb2 hb1⟩

set_option maxRecDepth 100000 in
theorem implTreeText_any (A B : Option Addr) (c e : Nat) (xs ys : List Int) (w : World) (h : IntS w A xs) (k : IntS w B ys) (hx : Bd xs) (hy : Bd ys) (hn : xs.length ≤ 1048576) (hm : ys.length ≤ 1048576) (hT : TabE w) :
    Calls Tryz.prog 16 #[.agg #[.slice A xs.length c, .slice B ys.length e]] w fun e' w' => e' = .returned (txV xs ys) ∧ Below w.heap.size w w' := by
  have HL := Lib.hid (fun W (h : IntS W A xs) (k : IntS W B ys) => isTree_any A B c e xs ys W h k hx hy hn hm)
  unfold txV
  clear hx hy
  cases hg : good xs ys
  · rw [hg] at HL
    clear hg
    rw [if_neg Bool.false_ne_true]
    go_enter Tryz.func16, Tryz.ntmps16
    go_wp2_with fail
    refine (HL.out _ (h.alloc _) (k.alloc _)).mono ?_
    rintro e1 w1 ⟨rfl, hb1⟩
    replace hb1 := below_alloc hb1
    go_wp2
    go_ret2
    exact ⟨rfl, hb1⟩
  · have hl := good_len hg
    have HT := Lib.hid (fun W (h : IntS W A xs) (k : IntS W B ys) (hT : TabE W) => treeText_any A B c e xs ys W h k hl.2.1 hl.1 hl.2.2 (good_small hg) hT)
    rw [hg] at HL
    clear hg hl
    rw [if_pos rfl]
    generalize txB xs ys = Z at *
    go_enter Tryz.func16, Tryz.ntmps16
    go_wp2_with fail
    refine (HL.out _ (h.alloc _) (k.alloc _)).mono ?_
    rintro e1 w1 ⟨rfl, hb1⟩
    have hx0 : w1.cell? ⟨w.heap.size, 0, none⟩ = some (.slice A xs.length c) := keep_cell hb1 (cell_new _ _ _ _ _ rfl)
    have hx1 : w1.cell? ⟨w.heap.size, 1, none⟩ = some (.slice B ys.length e) := keep_cell hb1 (cell_new _ _ _ _ _ rfl)
    replace hb1 := below_alloc hb1
    go_wp2_with fail
    refine (HT.out _ (h.below hb1) (k.below hb1) (hT.below hb1)).mono ?_
    rintro e2 w2 ⟨rfl, hb2⟩
    go_wp2
    go_ret2
    exact ⟨rfl, keep_below hb2 hb1⟩
end Go.Proofs.YtgccidkkfalaeaaGreatDoor
