/- Contracts: l1Put. -/
import Derived.Test.YtombfbmcplefgaaAsc
import Derived.Test.YtombfbmcplefgaaApp
import Derived.Test.YtombfbmcplefgaaEntryP
import Derived.Deep.QuietTactic
import Derived.BigQuiet
namespace Go.Proofs.Ytombfbmcplefgaa
open Go.ChangeShapes Go.WideShapes Go.ChangeAt Go.RowKit

theorem own_ne_ge {w : World} {B size n g : Nat} {e : TypeId} {v : Value} {xs : List Value} (h : w.ownsRow B e size v n xs) (hg : w.heap.size ≤ g) : v.ownBlock ≠ some g := fun e => by have := (h.lt g e).2; omega
theorem own_head {w : World} {B : Nat} {v : Value} {xs : List Int} {n : Nat} (h : w.ownsRow B 3 1 v n (i64s xs)) (hn : 1 ≤ n) : ∃ g c, v = .slice (some ⟨g, 0, none⟩) xs.length c ∧ B ≤ g ∧ xs.length ≤ c ∧ Row w g xs := by
  have hl : xs.length = n := by have := h.1; simpa [i64s] using this
  obtain ⟨A, c, hv, hO⟩ := own_form h
  rcases hO with ⟨_, e⟩ | ⟨g, rfl, hg, hr⟩
  · rw [e] at hl; simp at hl; omega
  · refine ⟨g, c, hv, hg, ?_, hr⟩
    rcases h.2 with ⟨e, _⟩ | ⟨g', cap, cur, e, _, _, h1, _⟩
    · rw [hv] at e; simp at e
    · rw [hv] at e; injection e with _ _ e; omega
theorem RowX.grown {w w' : World} {g : Nat} {L : List Int} {row : Option Nat} (h : RowX w g L) (hb : w.grownBy w' row) (hg : row ≠ some g) : RowX w' g L := (hb.block g h.lt (fun e => hg e.symm)).trans h
theorem RowX.news {w : World} {g : Nat} {v : Int} (h : RowX w g [v]) : ∀ (j : Nat) (u : Value), [Value.int .i64 v][j]? = some u → w.cell? ((⟨g, 0, none⟩ : Addr).add j) = some u := World.news_of_block (cs := #[.int .i64 v]) (t := 3) (fr := (0, 0)) h
theorem Row.part {w : World} {g : Nat} {L : List Int} (h : Row w g L) (k : Nat) {L' : List Int} (hp : ∀ j, j < L'.length → k + j < L.length ∧ nth L (k + j) = nth L' j) : ∀ (j : Nat) (u : Value), (i64s L')[j]? = some u → w.cell? ((⟨g, k, none⟩ : Addr).add j) = some u := by
  intro j u hu
  have hj : j < L'.length := by
    rcases Nat.lt_or_ge j L'.length with h | h
    · exact h
    · rw [List.getElem?_eq_none (by simpa [i64s] using h)] at hu; cases hu
  obtain ⟨h1, h2⟩ := hp j hj
  have hc := h.cell h1
  rw [Addr.add_lit, hc, h2]
  simp [i64s, List.getElem?_map, List.getElem?_eq_getElem hj] at hu
  rw [← hu]; simp [nth, List.getD, hj]
theorem i64s_cells {L : List Int} : ∀ u ∈ i64s L, u.oneCell' = true := by intro u hu; simp [i64s] at hu; obtain ⟨a, _, rfl⟩ := hu; rfl
def putM (L : List Int) (k : Nat) (v : Int) : List Int := L.take k ++ v :: L.drop k
theorem put_mem {L : List Int} {k : Nat} {v : Int} : ∀ u, u ∈ putM L k v ↔ u ∈ L ∨ u = v := fun u => by
  unfold putM
  conv => rhs; lhs; rw [← List.take_append_drop k L]
  simp only [List.mem_append, List.mem_cons]
  constructor
  · rintro (h | h | h)
    · exact .inl (.inl h)
    · exact .inr h
    · exact .inl (.inr h)
  · rintro ((h | h) | h)
    · exact .inl h
    · exact .inr (.inr h)
    · exact .inr (.inl h)
theorem put_asc {L : List Int} {k : Nat} {v : Int} (ha : Asc L) (h1 : ∀ i, i < k → nth L i < v) (h2 : k < L.length → v < nth L k) (hk : k ≤ L.length) : Asc (putM L k v) := by
  unfold putM Asc
  rw [List.pairwise_append]
  refine ⟨ha.sublist (List.take_sublist _ _), ?_, ?_⟩
  · rw [List.pairwise_cons]
    refine ⟨fun u hu => ?_, ha.sublist (List.drop_sublist _ _)⟩
    obtain ⟨i, hi, e⟩ := List.getElem_of_mem hu
    rw [List.length_drop] at hi
    rw [List.getElem_drop] at e
    have e2 : nth L (k + i) = u := by rw [nth_get (by omega)]; exact e
    by_cases h0 : i = 0
    · subst h0; rw [← e2]; exact h2 (by omega)
    · have := h2 (by omega)
      have := asc_lt ha (show k < k + i by omega) (by omega)
      omega
  · intro a hA b hB
    obtain ⟨i, hi, e⟩ := List.getElem_of_mem hA
    have hi2 : i < k ∧ i < L.length := by rw [List.length_take] at hi; omega
    rw [List.getElem_take] at e
    have e2 : nth L i = a := by rw [nth_get hi2.2]; exact e
    have ha1 := h1 i hi2.1
    rcases List.mem_cons.1 hB with rfl | hb
    · omega
    · obtain ⟨j, hj, f⟩ := List.getElem_of_mem hb
      rw [List.length_drop] at hj
      rw [List.getElem_drop] at f
      have f2 : nth L (k + j) = b := by rw [nth_get (by omega)]; exact f
      have := asc_lt ha (show i < k + j by omega) (by omega)
      omega
theorem put_len {L : List Int} {k : Nat} {v : Int} (hk : k ≤ L.length) : (putM L k v).length = L.length + 1 := by
  unfold putM; simp; omega
set_option maxHeartbeats 8000000 in
set_option maxRecDepth 100000 in
theorem l1Put_any (g cap : Nat) (v : Int) (L : List Int) (w : World) (h : Row w g L) (hcap : L.length ≤ cap) (hl : L.length ≤ 1000) (ha : Asc L) :
    Calls Try.prog 80 #[.slice (some ⟨g, 0, none⟩) L.length cap, .int .i64 v] w fun e1 w' => ∃ (M : List Int) (g' c' : Nat), e1 = .returned (.slice (some ⟨g', 0, none⟩) M.length c') ∧ Row w' g' M ∧ M.length ≤ c' ∧ (g' = g ∨ w.heap.size ≤ g') ∧ Asc M ∧ (∀ u, u ∈ M ↔ u ∈ L ∨ u = v) ∧ Below w.heap.size w w' := by
  have HA := Lib.hid ha
  have hgw := h.lt
  clear ha
  obtain ⟨i0, hi, hz0, hz1, hz2⟩ := info_parts info_int
  go_enter Try.func80, Try.ntmps80
  go_wp2
  go_loop [5] (fun kv => ∃ k : Nat, k ≤ L.length ∧ kv = .int .i64 k ∧ Hid (∀ i, i < k → nth L i < v)) (fun kv => L.length - (intOf kv).toNat)
  case atStart => exact ⟨0, by omega, rfl, fun i hi => by omega⟩
  case round =>
    obtain ⟨k, hk, rfl, HK⟩ := hrel
    by_cases hlt : k < L.length
    · have hc := h.cell hlt
      have i1 : (k : Int) < L.length := by omega
      have i2 : decide ((k : Int) < L.length) = true := decide_eq_true i1
      have hcv := hc
      by_cases hv : nth L k < v
      · have d1 : decide (nth L k < v) = true := decide_eq_true hv
        have HK' : Hid (∀ i, i < k + 1 → nth L i < v) := fun i hi => by
          by_cases e : i = k
          · subst e; exact hv
          · exact HK.out i (by omega)
        clear HK
        generalize nth L k = a at *
        go_wp2
        go_round
        case rel => exact ⟨k + 1, by omega, by go_num, HK'⟩
        case measure => simp [intOf]; omega
      · have d1 : decide (nth L k < v) = false := decide_eq_false hv
        by_cases he : nth L k = v
        · have HE := Lib.hid he
          have d2 : (nth L k == v) = true := by rw [beq_iff_eq]; exact he
          have d3 : decide (nth L k = v) = true := decide_eq_true he
          clear he
          generalize hq : nth L k = a at *
          have HQ := Lib.hid hq
          clear hq
          go_wp2
          go_ret
          refine ⟨L, g, cap, rfl, h, hcap, .inl rfl, HA.out, fun u => ⟨fun h => .inl h, fun h => ?_⟩, Below.refl _ _⟩
          rcases h with h | h
          · exact h
          · rw [h, ← HE.out, ← HQ.out]; exact nth_mem hlt
        · have d2 : (nth L k == v) = false := by rw [beq_eq_false_iff_ne]; exact he
          have d3 : decide (nth L k = v) = false := decide_eq_false he
          have HM := Lib.hid (put_asc HA.out HK.out (fun _ => by omega : k < L.length → v < nth L k) hk)
          clear HK he
          generalize nth L k = a at *
          have hcap0 : ¬ cap = 0 := by omega
          have hcapk : ¬ cap = k := by omega
          have hkc : k ≤ cap := by omega
          go_wp2
          have hw := Below.refl w.heap.size w
          refine wp_region_held_drew (S := fun w' => Below w.heap.size w w') (by kernel_rfl) (hw.drew) (fun hHeld => ?_)
          refine wpAnyH_take (i := 1) (oi := ?ooa1) (v := ?vva1) ?hia1 (by kernel_rfl) (by kernel_rfl) (by kernel_rfl) ?hqa1 (Or.inl ⟨?hga1, ?hya1⟩) (by assumption) ?resta1
          case hia1 => simp only [List.getElem?_toArray, List.getElem?_cons_zero, List.getElem?_cons_succ]; rfl
          case hqa1 => exact fun _ _ _ h => h
          case hga1 => rfl
          case hya1 =>
            intro wq hSw
            go_simp
            (try with_reducible rfl)
          (try simp only [Act.put, List.setIfInBounds_toArray, List.set_cons_zero, List.set_cons_succ])
          refine wpAnyH_take (i := 2) (oi := ?ooa2) (v := ?vva2) ?hia2 (by kernel_rfl) (by kernel_rfl) (by kernel_rfl) ?hqa2 (Or.inl ⟨?hga2, ?hya2⟩) (by assumption) ?resta2
          case hia2 => simp only [List.getElem?_toArray, List.getElem?_cons_zero, List.getElem?_cons_succ]; rfl
          case hqa2 => exact fun _ _ _ h => h
          case hga2 => rfl
          case hya2 =>
            intro wq hSw
            go_simp
            (try with_reducible rfl)
          (try simp only [Act.put, List.setIfInBounds_toArray, List.set_cons_zero, List.set_cons_succ])
          refine wpAnyH_take (i := 3) (oi := ?ooa3) (v := ?vva3) ?hia3 (by kernel_rfl) (by kernel_rfl) (by kernel_rfl) ?hqa3 (Or.inl ⟨?hga3, ?hya3⟩) (by assumption) ?resta3
          case hia3 => simp only [List.getElem?_toArray, List.getElem?_cons_zero, List.getElem?_cons_succ]; rfl
          case hqa3 => exact fun _ _ _ h => h
          case hga3 => rfl
          case hya3 =>
            intro wq hSw
            go_simp
            (try with_reducible rfl)
          (try simp only [Act.put, List.setIfInBounds_toArray, List.set_cons_zero, List.set_cons_succ])
          refine wpAnyH_take (i := 5) (oi := ?ooa4) (v := ?vva4) ?hia4 (by kernel_rfl) (by kernel_rfl) (by kernel_rfl) ?hqa4 (Or.inl ⟨?hga4, ?hya4⟩) (by assumption) ?resta4
          case hia4 => simp only [List.getElem?_toArray, List.getElem?_cons_zero, List.getElem?_cons_succ]; rfl
          case hqa4 => exact fun _ _ _ h => h
          case hga4 => rfl
          case hya4 =>
            intro wq hSw
            go_simp
            (try with_reducible rfl)
          (try simp only [Act.put, List.setIfInBounds_toArray, List.set_cons_zero, List.set_cons_succ])
          refine wpAnyH_take (i := 8) (oi := ?ooa5) (v := ?vva5) ?hia5 (by kernel_rfl) (by kernel_rfl) (by kernel_rfl) ?hqa5 (Or.inl ⟨?hga5, ?hya5⟩) (by assumption) ?resta5
          case hia5 => simp only [List.getElem?_toArray, List.getElem?_cons_zero, List.getElem?_cons_succ]; rfl
          case hqa5 => exact fun _ _ _ h => h
          case hga5 => rfl
          case hya5 =>
            intro wq hSw
            go_simp
            (try with_reducible rfl)
          (try simp only [Act.put, List.setIfInBounds_toArray, List.set_cons_zero, List.set_cons_succ])
          refine wpAnyH_take (i := 9) (oi := ?ooa6) (v := ?vva6) ?hia6 (by kernel_rfl) (by kernel_rfl) (by kernel_rfl) ?hqa6 (Or.inl ⟨?hga6, ?hya6⟩) (by assumption) ?resta6
          case hia6 => simp only [List.getElem?_toArray, List.getElem?_cons_zero, List.getElem?_cons_succ]; rfl
          case hqa6 => exact fun _ _ _ h => h
          case hga6 => rfl
          case hya6 =>
            intro wq hSw
            go_simp
            (try with_reducible rfl)
          (try simp only [Act.put, List.setIfInBounds_toArray, List.set_cons_zero, List.set_cons_succ])
          refine wpAnyH_take (i := 10) (oi := ?ooa7) (v := ?vva7) ?hia7 (by kernel_rfl) (by kernel_rfl) (by kernel_rfl) ?hqa7 (Or.inl ⟨?hga7, ?hya7⟩) (by assumption) ?resta7
          case hia7 => simp only [List.getElem?_toArray, List.getElem?_cons_zero, List.getElem?_cons_succ]; rfl
          case hqa7 => exact fun _ _ _ h => h
          case hga7 => rfl
          case hya7 =>
            intro wq hSw
            go_simp
            (try with_reducible rfl)
          (try simp only [Act.put, List.setIfInBounds_toArray, List.set_cons_zero, List.set_cons_succ])
          refine wpAnyH_ready (rs := [0, 6]) (by kernel_rfl) (by simp) ?_
          refine AllReadyH.cons (i := 0) (o := ?ooa8) ?hoa8 (fun K hK => ?hstepa8) ?morea8
          case hoa8 => simp only [List.getElem?_toArray, List.getElem?_cons_zero, List.getElem?_cons_succ]; rfl
          case hstepa8 =>
            go_simp
            clear hHeld
            refine hK.out _ _ (Below.drew (keep_below_alloc hw _)) (fun hHeld => ?_)
            clear hK K
            (try simp only [Act.put, List.setIfInBounds_toArray, List.set_cons_zero, List.set_cons_succ])
            refine wpAnyH_name hHeld (fun waa8 hHa hwz => ?_)
            have hbA : Below w.heap.size w waa8 := by rw [hwz]; exact Below.drew ((Below.refl w.heap.size w).alloc (Nat.le_refl _) _)
            have hwo := hw.size
            replace h := h.below hbA
            replace hw := keep_below hbA hw
            have hown : waa8.ownsRow w.heap.size 3 1 (.slice (some ⟨w.heap.size, 0, none⟩) 0 0) 0 (i64s []) := by rw [hwz]; exact own_empty w w.heap.size w.heap.size rfl hwo
            clear hHeld hbA hwz
            have hHeld := hHa
            clear hHa
            refine wpAnyH_ready (rs := [4, 6]) (by kernel_rfl) (by simp) ?_
            refine AllReadyH.cons (i := 4) (o := ?ooa9) ?hoa9 (fun K hK => ?hstepa9) ?morea9
            case hoa9 => simp only [List.getElem?_toArray, List.getElem?_cons_zero, List.getElem?_cons_succ]; rfl
            case hstepa9 =>
              clear hHeld
              refine step_append_elder _ (by rfl) _ _ 22 (by rfl) w.heap.size 3 i0 (.int .i64 0) 1 8 Try.underlying22 hi hz0 hz1 hz2 rfl (by decide) _ _ _ (by rfl) hown ⟨g, 0, none⟩ _ _ (i64s (L.take (k))) (by rfl) (by simp [i64s]; omega) (h.part 0 (fun j hj => by first | (simp at hj; done) | simp at hj; rw [nth_get (show j < (L.take (k)).length by simp; omega), nth_get (show 0 + j < L.length by omega)]; exact ⟨by omega, by simp⟩)) (i64s_cells) (by unfold maxLen; omega) (by omega) hw.size ?_
              intro v' wpa9 hown1 hgrow hat hel
              have hrow1 := h.grown hgrow (fun e => by have := (hown.lt g e.symm).1; omega)
              have hw1 := Below.grown hw hgrow hw.size (fun g9 hg9 => (hown.lt g9 hg9).1)
              clear hown hgrow hat hel h hw
              have h := hrow1
              have hown := hown1
              have hw := hw1
              clear hrow1 hown1 hw1
              refine hK.out _ _ (hw) (fun hHeld => ?_)
              clear hK K
              (try simp only [Act.put, List.setIfInBounds_toArray, List.set_cons_zero, List.set_cons_succ])
              refine wpAnyH_ready (rs := [6]) (by kernel_rfl) (by simp) ?_
              refine AllReadyH.cons (i := 6) (o := ?ooa10) ?hoa10 (fun K hK => ?hstepa10) AllReadyH.nil
              case hoa10 => simp only [List.getElem?_toArray, List.getElem?_cons_zero, List.getElem?_cons_succ]; rfl
              go_simp
              clear hHeld
              refine hK.out _ _ (keep_below_alloc hw _) (fun hHeld => ?_)
              clear hK K
              (try simp only [Act.put, List.setIfInBounds_toArray, List.set_cons_zero, List.set_cons_succ])
              refine wpAnyH_name hHeld (fun waa10 hHa hwz => ?_)
              have hbA : Below wpa9.heap.size wpa9 waa10 := by rw [hwz]; exact (Below.refl wpa9.heap.size wpa9).alloc (Nat.le_refl _) _
              have hneN := own_ne_ge (g := wpa9.heap.size) hown (Nat.le_refl _)
              replace h := h.below hbA
              replace hown := own_below hown hbA
              replace hw := keep_below hbA hw
              have hnx : RowX waa10 wpa9.heap.size [v] := by rw [hwz]; exact RowX.new wpa9 [v] rfl
              generalize wpa9.heap.size = gN at hnx hneN ⊢
              clear hHeld hbA hwz
              have hHeld := hHa
              clear hHa
              refine wpAnyH_ready (rs := [7]) (by kernel_rfl) (by simp) ?_
              refine AllReadyH.cons (i := 7) (o := ?ooa11) ?hoa11 (fun K hK => ?hstepa11) AllReadyH.nil
              case hoa11 => simp only [List.getElem?_toArray, List.getElem?_cons_zero, List.getElem?_cons_succ]; rfl
              clear hHeld
              refine step_append_elder _ (by rfl) _ _ 22 (by rfl) w.heap.size 3 i0 (.int .i64 0) 1 8 Try.underlying22 hi hz0 hz1 hz2 rfl (by decide) _ _ _ (by rfl) hown ⟨gN, 0, none⟩ _ _ ([.int .i64 v]) (by rfl) (rfl) (hnx.news) (by simp [Value.oneCell']) (by unfold maxLen; omega) (by omega) hw.size ?_
              intro v' wpa11 hown1 hgrow hat hel
              have hrow1 := h.grown hgrow (fun e => by have := (hown.lt g e.symm).1; omega)
              have hw1 := Below.grown hw hgrow hw.size (fun g9 hg9 => (hown.lt g9 hg9).1)
              clear hnx hneN hown hgrow hat hel h hw
              have h := hrow1
              have hown := hown1
              have hw := hw1
              clear hrow1 hown1 hw1
              refine hK.out _ _ (hw) (fun hHeld => ?_)
              clear hK K
              (try simp only [Act.put, List.setIfInBounds_toArray, List.set_cons_zero, List.set_cons_succ])
              refine wpAnyH_ready (rs := [11]) (by kernel_rfl) (by simp) ?_
              refine AllReadyH.cons (i := 11) (o := ?ooa12) ?hoa12 (fun K hK => ?hstepa12) AllReadyH.nil
              case hoa12 => simp only [List.getElem?_toArray, List.getElem?_cons_zero, List.getElem?_cons_succ]; rfl
              clear hHeld
              refine step_append_elder _ (by rfl) _ _ 22 (by rfl) w.heap.size 3 i0 (.int .i64 0) 1 8 Try.underlying22 hi hz0 hz1 hz2 rfl (by decide) _ _ _ (by rfl) hown ⟨g, k, none⟩ _ _ (i64s (L.drop (k))) (by rfl) (by first | (simp [i64s]; done) | (simp [i64s]; omega)) (h.part (k) (fun j hj => by first | (simp at hj; done) | (simp at hj; omega) | simp at hj; rw [nth_get (show j < (L.drop (k)).length by simp; omega), nth_get (show (k) + j < L.length by omega)]; exact ⟨by omega, by simp⟩)) (i64s_cells) (by unfold maxLen; omega) (by omega) hw.size ?_
              intro v' wpa12 hown1 hgrow hat hel
              have hrow1 := h.grown hgrow (fun e => by have := (hown.lt g e.symm).1; omega)
              have hw1 := Below.grown hw hgrow hw.size (fun g9 hg9 => (hown.lt g9 hg9).1)
              clear hown hgrow hat hel h hw
              have h := hrow1
              have hown := hown1
              have hw := hw1
              clear hrow1 hown1 hw1
              refine hK.out _ _ (hw) (fun hHeld => ?_)
              clear hK K
              (try simp only [Act.put, List.setIfInBounds_toArray, List.set_cons_zero, List.set_cons_succ])
              refine wpAnyH_take (i := 12) (oi := ?ooa13) (v := ?vva13) ?hia13 (by kernel_rfl) (by kernel_rfl) (by kernel_rfl) ?hqa13 (Or.inl ⟨?hga13, ?hya13⟩) (by assumption) ?resta13
              case hia13 => simp only [List.getElem?_toArray, List.getElem?_cons_zero, List.getElem?_cons_succ]; rfl
              case hqa13 => exact fun _ _ _ h => h
              case hga13 => rfl
              case hya13 =>
                intro wq hSw
                go_simp
                (try with_reducible rfl)
              (try simp only [Act.put, List.setIfInBounds_toArray, List.set_cons_zero, List.set_cons_succ])
              clear hHeld
              refine wpAnyH_done (by kernel_rfl) ?_ _
              go_wp2
              go_ret
              obtain ⟨g', c', rfl, hg', hc', hr'⟩ := own_head (xs := putM L (k) v) (by simpa [putM, i64s] using hown) (by omega)
              exact ⟨putM L (k) v, g', c', rfl, hr', hc', .inr hg', HM.out, put_mem, hw⟩
            refine AllReadyH.cons (i := 6) (o := ?ooa14) ?hoa14 (fun K hK => ?hstepa14) ?morea14
            case hoa14 => simp only [List.getElem?_toArray, List.getElem?_cons_zero, List.getElem?_cons_succ]; rfl
            case hstepa14 =>
              go_simp
              clear hHeld
              refine hK.out _ _ (keep_below_alloc hw _) (fun hHeld => ?_)
              clear hK K
              (try simp only [Act.put, List.setIfInBounds_toArray, List.set_cons_zero, List.set_cons_succ])
              refine wpAnyH_name hHeld (fun waa14 hHa hwz => ?_)
              have hbA : Below waa8.heap.size waa8 waa14 := by rw [hwz]; exact (Below.refl waa8.heap.size waa8).alloc (Nat.le_refl _) _
              have hneN := own_ne_ge (g := waa8.heap.size) hown (Nat.le_refl _)
              replace h := h.below hbA
              replace hown := own_below hown hbA
              replace hw := keep_below hbA hw
              have hnx : RowX waa14 waa8.heap.size [v] := by rw [hwz]; exact RowX.new waa8 [v] rfl
              generalize waa8.heap.size = gN at hnx hneN ⊢
              clear hHeld hbA hwz
              have hHeld := hHa
              clear hHa
              refine wpAnyH_ready (rs := [4]) (by kernel_rfl) (by simp) ?_
              refine AllReadyH.cons (i := 4) (o := ?ooa15) ?hoa15 (fun K hK => ?hstepa15) AllReadyH.nil
              case hoa15 => simp only [List.getElem?_toArray, List.getElem?_cons_zero, List.getElem?_cons_succ]; rfl
              clear hHeld
              refine step_append_elder _ (by rfl) _ _ 22 (by rfl) w.heap.size 3 i0 (.int .i64 0) 1 8 Try.underlying22 hi hz0 hz1 hz2 rfl (by decide) _ _ _ (by rfl) hown ⟨g, 0, none⟩ _ _ (i64s (L.take (k))) (by rfl) (by simp [i64s]; omega) (h.part 0 (fun j hj => by first | (simp at hj; done) | simp at hj; rw [nth_get (show j < (L.take (k)).length by simp; omega), nth_get (show 0 + j < L.length by omega)]; exact ⟨by omega, by simp⟩)) (i64s_cells) (by unfold maxLen; omega) (by omega) hw.size ?_
              intro v' wpa15 hown1 hgrow hat hel
              have hrow1 := h.grown hgrow (fun e => by have := (hown.lt g e.symm).1; omega)
              have hnx1 := hnx.grown hgrow hneN
              have hneN1 : v'.ownBlock ≠ some gN := by
                rcases hat with e | e
                · rw [e]; exact hneN
                · rw [e]; intro h'; injection h' with h'; have := hnx.lt; omega
              clear hnx hneN
              have hnx := hnx1
              have hneN := hneN1
              clear hnx1 hneN1
              have hw1 := Below.grown hw hgrow hw.size (fun g9 hg9 => (hown.lt g9 hg9).1)
              clear hown hgrow hat hel h hw
              have h := hrow1
              have hown := hown1
              have hw := hw1
              clear hrow1 hown1 hw1
              refine hK.out _ _ (hw) (fun hHeld => ?_)
              clear hK K
              (try simp only [Act.put, List.setIfInBounds_toArray, List.set_cons_zero, List.set_cons_succ])
              refine wpAnyH_ready (rs := [7]) (by kernel_rfl) (by simp) ?_
              refine AllReadyH.cons (i := 7) (o := ?ooa16) ?hoa16 (fun K hK => ?hstepa16) AllReadyH.nil
              case hoa16 => simp only [List.getElem?_toArray, List.getElem?_cons_zero, List.getElem?_cons_succ]; rfl
              clear hHeld
              refine step_append_elder _ (by rfl) _ _ 22 (by rfl) w.heap.size 3 i0 (.int .i64 0) 1 8 Try.underlying22 hi hz0 hz1 hz2 rfl (by decide) _ _ _ (by rfl) hown ⟨gN, 0, none⟩ _ _ ([.int .i64 v]) (by rfl) (rfl) (hnx.news) (by simp [Value.oneCell']) (by unfold maxLen; omega) (by omega) hw.size ?_
              intro v' wpa16 hown1 hgrow hat hel
              have hrow1 := h.grown hgrow (fun e => by have := (hown.lt g e.symm).1; omega)
              have hw1 := Below.grown hw hgrow hw.size (fun g9 hg9 => (hown.lt g9 hg9).1)
              clear hnx hneN hown hgrow hat hel h hw
              have h := hrow1
              have hown := hown1
              have hw := hw1
              clear hrow1 hown1 hw1
              refine hK.out _ _ (hw) (fun hHeld => ?_)
              clear hK K
              (try simp only [Act.put, List.setIfInBounds_toArray, List.set_cons_zero, List.set_cons_succ])
              refine wpAnyH_ready (rs := [11]) (by kernel_rfl) (by simp) ?_
              refine AllReadyH.cons (i := 11) (o := ?ooa17) ?hoa17 (fun K hK => ?hstepa17) AllReadyH.nil
              case hoa17 => simp only [List.getElem?_toArray, List.getElem?_cons_zero, List.getElem?_cons_succ]; rfl
              clear hHeld
              refine step_append_elder _ (by rfl) _ _ 22 (by rfl) w.heap.size 3 i0 (.int .i64 0) 1 8 Try.underlying22 hi hz0 hz1 hz2 rfl (by decide) _ _ _ (by rfl) hown ⟨g, k, none⟩ _ _ (i64s (L.drop (k))) (by rfl) (by first | (simp [i64s]; done) | (simp [i64s]; omega)) (h.part (k) (fun j hj => by first | (simp at hj; done) | (simp at hj; omega) | simp at hj; rw [nth_get (show j < (L.drop (k)).length by simp; omega), nth_get (show (k) + j < L.length by omega)]; exact ⟨by omega, by simp⟩)) (i64s_cells) (by unfold maxLen; omega) (by omega) hw.size ?_
              intro v' wpa17 hown1 hgrow hat hel
              have hrow1 := h.grown hgrow (fun e => by have := (hown.lt g e.symm).1; omega)
              have hw1 := Below.grown hw hgrow hw.size (fun g9 hg9 => (hown.lt g9 hg9).1)
              clear hown hgrow hat hel h hw
              have h := hrow1
              have hown := hown1
              have hw := hw1
              clear hrow1 hown1 hw1
              refine hK.out _ _ (hw) (fun hHeld => ?_)
              clear hK K
              (try simp only [Act.put, List.setIfInBounds_toArray, List.set_cons_zero, List.set_cons_succ])
              refine wpAnyH_take (i := 12) (oi := ?ooa18) (v := ?vva18) ?hia18 (by kernel_rfl) (by kernel_rfl) (by kernel_rfl) ?hqa18 (Or.inl ⟨?hga18, ?hya18⟩) (by assumption) ?resta18
              case hia18 => simp only [List.getElem?_toArray, List.getElem?_cons_zero, List.getElem?_cons_succ]; rfl
              case hqa18 => exact fun _ _ _ h => h
              case hga18 => rfl
              case hya18 =>
                intro wq hSw
                go_simp
                (try with_reducible rfl)
              (try simp only [Act.put, List.setIfInBounds_toArray, List.set_cons_zero, List.set_cons_succ])
              clear hHeld
              refine wpAnyH_done (by kernel_rfl) ?_ _
              go_wp2
              go_ret
              obtain ⟨g', c', rfl, hg', hc', hr'⟩ := own_head (xs := putM L (k) v) (by simpa [putM, i64s] using hown) (by omega)
              exact ⟨putM L (k) v, g', c', rfl, hr', hc', .inr hg', HM.out, put_mem, hw⟩
            exact AllReadyH.nil
          refine AllReadyH.cons (i := 6) (o := ?ooa19) ?hoa19 (fun K hK => ?hstepa19) ?morea19
          case hoa19 => simp only [List.getElem?_toArray, List.getElem?_cons_zero, List.getElem?_cons_succ]; rfl
          case hstepa19 =>
            go_simp
            clear hHeld
            refine hK.out _ _ (Below.drew (keep_below_alloc hw _)) (fun hHeld => ?_)
            clear hK K
            (try simp only [Act.put, List.setIfInBounds_toArray, List.set_cons_zero, List.set_cons_succ])
            refine wpAnyH_name hHeld (fun waa19 hHa hwz => ?_)
            have hbA : Below w.heap.size w waa19 := by rw [hwz]; exact Below.drew ((Below.refl w.heap.size w).alloc (Nat.le_refl _) _)
            replace h := h.below hbA
            replace hw := keep_below hbA hw
            have hnx : RowX waa19 w.heap.size [v] := by rw [hwz]; exact RowX.new w [v] rfl
            clear hHeld hbA hwz
            have hHeld := hHa
            clear hHa
            refine wpAnyH_ready (rs := [0]) (by kernel_rfl) (by simp) ?_
            refine AllReadyH.cons (i := 0) (o := ?ooa20) ?hoa20 (fun K hK => ?hstepa20) AllReadyH.nil
            case hoa20 => simp only [List.getElem?_toArray, List.getElem?_cons_zero, List.getElem?_cons_succ]; rfl
            go_simp
            clear hHeld
            refine hK.out _ _ (keep_below_alloc hw _) (fun hHeld => ?_)
            clear hK K
            (try simp only [Act.put, List.setIfInBounds_toArray, List.set_cons_zero, List.set_cons_succ])
            refine wpAnyH_name hHeld (fun waa20 hHa hwz => ?_)
            have hbA : Below waa19.heap.size waa19 waa20 := by rw [hwz]; exact (Below.refl waa19.heap.size waa19).alloc (Nat.le_refl _) _
            have hwo := hw.size
            have hgN := hnx.lt
            replace h := h.below hbA
            replace hnx := hnx.below hbA
            replace hw := keep_below hbA hw
            have hown : waa20.ownsRow w.heap.size 3 1 (.slice (some ⟨waa19.heap.size, 0, none⟩) 0 0) 0 (i64s []) := by rw [hwz]; exact own_empty waa19 w.heap.size waa19.heap.size rfl hwo
            have hneN : (Value.slice (some ⟨waa19.heap.size, 0, none⟩) 0 0).ownBlock ≠ some w.heap.size := by intro h'; injection h' with h'; have h9 : waa19.heap.size = w.heap.size := h'; omega
            clear hHeld hbA hwz
            have hHeld := hHa
            clear hHa
            refine wpAnyH_ready (rs := [4]) (by kernel_rfl) (by simp) ?_
            refine AllReadyH.cons (i := 4) (o := ?ooa21) ?hoa21 (fun K hK => ?hstepa21) AllReadyH.nil
            case hoa21 => simp only [List.getElem?_toArray, List.getElem?_cons_zero, List.getElem?_cons_succ]; rfl
            clear hHeld
            refine step_append_elder _ (by rfl) _ _ 22 (by rfl) w.heap.size 3 i0 (.int .i64 0) 1 8 Try.underlying22 hi hz0 hz1 hz2 rfl (by decide) _ _ _ (by rfl) hown ⟨g, 0, none⟩ _ _ (i64s (L.take (k))) (by rfl) (by simp [i64s]; omega) (h.part 0 (fun j hj => by first | (simp at hj; done) | simp at hj; rw [nth_get (show j < (L.take (k)).length by simp; omega), nth_get (show 0 + j < L.length by omega)]; exact ⟨by omega, by simp⟩)) (i64s_cells) (by unfold maxLen; omega) (by omega) hw.size ?_
            intro v' wpa21 hown1 hgrow hat hel
            have hrow1 := h.grown hgrow (fun e => by have := (hown.lt g e.symm).1; omega)
            have hnx1 := hnx.grown hgrow hneN
            have hneN1 : v'.ownBlock ≠ some w.heap.size := by
              rcases hat with e | e
              · rw [e]; exact hneN
              · rw [e]; intro h'; injection h' with h'; have := hnx.lt; omega
            clear hnx hneN
            have hnx := hnx1
            have hneN := hneN1
            clear hnx1 hneN1
            have hw1 := Below.grown hw hgrow hw.size (fun g9 hg9 => (hown.lt g9 hg9).1)
            clear hown hgrow hat hel h hw
            have h := hrow1
            have hown := hown1
            have hw := hw1
            clear hrow1 hown1 hw1
            refine hK.out _ _ (hw) (fun hHeld => ?_)
            clear hK K
            (try simp only [Act.put, List.setIfInBounds_toArray, List.set_cons_zero, List.set_cons_succ])
            refine wpAnyH_ready (rs := [7]) (by kernel_rfl) (by simp) ?_
            refine AllReadyH.cons (i := 7) (o := ?ooa22) ?hoa22 (fun K hK => ?hstepa22) AllReadyH.nil
            case hoa22 => simp only [List.getElem?_toArray, List.getElem?_cons_zero, List.getElem?_cons_succ]; rfl
            clear hHeld
            refine step_append_elder _ (by rfl) _ _ 22 (by rfl) w.heap.size 3 i0 (.int .i64 0) 1 8 Try.underlying22 hi hz0 hz1 hz2 rfl (by decide) _ _ _ (by rfl) hown ⟨w.heap.size, 0, none⟩ _ _ ([.int .i64 v]) (by rfl) (rfl) (hnx.news) (by simp [Value.oneCell']) (by unfold maxLen; omega) (by omega) hw.size ?_
            intro v' wpa22 hown1 hgrow hat hel
            have hrow1 := h.grown hgrow (fun e => by have := (hown.lt g e.symm).1; omega)
            have hw1 := Below.grown hw hgrow hw.size (fun g9 hg9 => (hown.lt g9 hg9).1)
            clear hnx hneN hown hgrow hat hel h hw
            have h := hrow1
            have hown := hown1
            have hw := hw1
            clear hrow1 hown1 hw1
            refine hK.out _ _ (hw) (fun hHeld => ?_)
            clear hK K
            (try simp only [Act.put, List.setIfInBounds_toArray, List.set_cons_zero, List.set_cons_succ])
            refine wpAnyH_ready (rs := [11]) (by kernel_rfl) (by simp) ?_
            refine AllReadyH.cons (i := 11) (o := ?ooa23) ?hoa23 (fun K hK => ?hstepa23) AllReadyH.nil
            case hoa23 => simp only [List.getElem?_toArray, List.getElem?_cons_zero, List.getElem?_cons_succ]; rfl
            clear hHeld
            refine step_append_elder _ (by rfl) _ _ 22 (by rfl) w.heap.size 3 i0 (.int .i64 0) 1 8 Try.underlying22 hi hz0 hz1 hz2 rfl (by decide) _ _ _ (by rfl) hown ⟨g, k, none⟩ _ _ (i64s (L.drop (k))) (by rfl) (by first | (simp [i64s]; done) | (simp [i64s]; omega)) (h.part (k) (fun j hj => by first | (simp at hj; done) | (simp at hj; omega) | simp at hj; rw [nth_get (show j < (L.drop (k)).length by simp; omega), nth_get (show (k) + j < L.length by omega)]; exact ⟨by omega, by simp⟩)) (i64s_cells) (by unfold maxLen; omega) (by omega) hw.size ?_
            intro v' wpa23 hown1 hgrow hat hel
            have hrow1 := h.grown hgrow (fun e => by have := (hown.lt g e.symm).1; omega)
            have hw1 := Below.grown hw hgrow hw.size (fun g9 hg9 => (hown.lt g9 hg9).1)
            clear hown hgrow hat hel h hw
            have h := hrow1
            have hown := hown1
            have hw := hw1
            clear hrow1 hown1 hw1
            refine hK.out _ _ (hw) (fun hHeld => ?_)
            clear hK K
            (try simp only [Act.put, List.setIfInBounds_toArray, List.set_cons_zero, List.set_cons_succ])
            refine wpAnyH_take (i := 12) (oi := ?ooa24) (v := ?vva24) ?hia24 (by kernel_rfl) (by kernel_rfl) (by kernel_rfl) ?hqa24 (Or.inl ⟨?hga24, ?hya24⟩) (by assumption) ?resta24
            case hia24 => simp only [List.getElem?_toArray, List.getElem?_cons_zero, List.getElem?_cons_succ]; rfl
            case hqa24 => exact fun _ _ _ h => h
            case hga24 => rfl
            case hya24 =>
              intro wq hSw
              go_simp
              (try with_reducible rfl)
            (try simp only [Act.put, List.setIfInBounds_toArray, List.set_cons_zero, List.set_cons_succ])
            clear hHeld
            refine wpAnyH_done (by kernel_rfl) ?_ _
            go_wp2
            go_ret
            obtain ⟨g', c', rfl, hg', hc', hr'⟩ := own_head (xs := putM L (k) v) (by simpa [putM, i64s] using hown) (by omega)
            exact ⟨putM L (k) v, g', c', rfl, hr', hc', .inr hg', HM.out, put_mem, hw⟩
          exact AllReadyH.nil
    · have hke : k = L.length := by omega
      have i1 : ¬ ((k : Int) < L.length) := by omega
      have i2 : decide ((k : Int) < L.length) = false := decide_eq_false i1
      have HM := Lib.hid (put_asc HA.out HK.out (fun h => absurd h hlt : k < L.length → v < nth L k) hk)
      clear HK hke
      have hkc : k ≤ cap := by omega
      by_cases hcapk : cap = k
      · by_cases hcap0 : cap = 0
        · subst hcap0
          have hk0 : k = 0 := by omega
          subst hk0
          have hL0 : L = [] := List.eq_nil_of_length_eq_zero (by omega)
          subst hL0
          go_wp2
          have hw := Below.refl w.heap.size w
          refine wp_region_held_drew (S := fun w' => Below w.heap.size w w') (by kernel_rfl) (hw.drew) (fun hHeld => ?_)
          refine wpAnyH_take (i := 1) (oi := ?oob1) (v := ?vvb1) ?hib1 (by kernel_rfl) (by kernel_rfl) (by kernel_rfl) ?hqb1 (Or.inl ⟨?hgb1, ?hyb1⟩) (by assumption) ?restb1
          case hib1 => simp only [List.getElem?_toArray, List.getElem?_cons_zero, List.getElem?_cons_succ]; rfl
          case hqb1 => exact fun _ _ _ h => h
          case hgb1 => rfl
          case hyb1 =>
            intro wq hSw
            go_simp
            (try with_reducible rfl)
          (try simp only [Act.put, List.setIfInBounds_toArray, List.set_cons_zero, List.set_cons_succ])
          refine wpAnyH_take (i := 2) (oi := ?oob2) (v := ?vvb2) ?hib2 (by kernel_rfl) (by kernel_rfl) (by kernel_rfl) ?hqb2 (Or.inl ⟨?hgb2, ?hyb2⟩) (by assumption) ?restb2
          case hib2 => simp only [List.getElem?_toArray, List.getElem?_cons_zero, List.getElem?_cons_succ]; rfl
          case hqb2 => exact fun _ _ _ h => h
          case hgb2 => rfl
          case hyb2 =>
            intro wq hSw
            go_simp
            (try with_reducible rfl)
          (try simp only [Act.put, List.setIfInBounds_toArray, List.set_cons_zero, List.set_cons_succ])
          refine wpAnyH_take (i := 3) (oi := ?oob3) (v := ?vvb3) ?hib3 (by kernel_rfl) (by kernel_rfl) (by kernel_rfl) ?hqb3 (Or.inl ⟨?hgb3, ?hyb3⟩) (by assumption) ?restb3
          case hib3 => simp only [List.getElem?_toArray, List.getElem?_cons_zero, List.getElem?_cons_succ]; rfl
          case hqb3 => exact fun _ _ _ h => h
          case hgb3 => rfl
          case hyb3 =>
            intro wq hSw
            go_simp
            (try with_reducible rfl)
          (try simp only [Act.put, List.setIfInBounds_toArray, List.set_cons_zero, List.set_cons_succ])
          refine wpAnyH_take (i := 5) (oi := ?oob4) (v := ?vvb4) ?hib4 (by kernel_rfl) (by kernel_rfl) (by kernel_rfl) ?hqb4 (Or.inl ⟨?hgb4, ?hyb4⟩) (by assumption) ?restb4
          case hib4 => simp only [List.getElem?_toArray, List.getElem?_cons_zero, List.getElem?_cons_succ]; rfl
          case hqb4 => exact fun _ _ _ h => h
          case hgb4 => rfl
          case hyb4 =>
            intro wq hSw
            go_simp
            (try with_reducible rfl)
          (try simp only [Act.put, List.setIfInBounds_toArray, List.set_cons_zero, List.set_cons_succ])
          refine wpAnyH_take (i := 8) (oi := ?oob5) (v := ?vvb5) ?hib5 (by kernel_rfl) (by kernel_rfl) (by kernel_rfl) ?hqb5 (Or.inl ⟨?hgb5, ?hyb5⟩) (by assumption) ?restb5
          case hib5 => simp only [List.getElem?_toArray, List.getElem?_cons_zero, List.getElem?_cons_succ]; rfl
          case hqb5 => exact fun _ _ _ h => h
          case hgb5 => rfl
          case hyb5 =>
            intro wq hSw
            go_simp
            (try with_reducible rfl)
          (try simp only [Act.put, List.setIfInBounds_toArray, List.set_cons_zero, List.set_cons_succ])
          refine wpAnyH_take (i := 9) (oi := ?oob6) (v := ?vvb6) ?hib6 (by kernel_rfl) (by kernel_rfl) (by kernel_rfl) ?hqb6 (Or.inl ⟨?hgb6, ?hyb6⟩) (by assumption) ?restb6
          case hib6 => simp only [List.getElem?_toArray, List.getElem?_cons_zero, List.getElem?_cons_succ]; rfl
          case hqb6 => exact fun _ _ _ h => h
          case hgb6 => rfl
          case hyb6 =>
            intro wq hSw
            go_simp
            (try with_reducible rfl)
          (try simp only [Act.put, List.setIfInBounds_toArray, List.set_cons_zero, List.set_cons_succ])
          refine wpAnyH_take (i := 10) (oi := ?oob7) (v := ?vvb7) ?hib7 (by kernel_rfl) (by kernel_rfl) (by kernel_rfl) ?hqb7 (Or.inl ⟨?hgb7, ?hyb7⟩) (by assumption) ?restb7
          case hib7 => simp only [List.getElem?_toArray, List.getElem?_cons_zero, List.getElem?_cons_succ]; rfl
          case hqb7 => exact fun _ _ _ h => h
          case hgb7 => rfl
          case hyb7 =>
            intro wq hSw
            go_simp
            (try with_reducible rfl)
          (try simp only [Act.put, List.setIfInBounds_toArray, List.set_cons_zero, List.set_cons_succ])
          refine wpAnyH_ready (rs := [0, 6]) (by kernel_rfl) (by simp) ?_
          refine AllReadyH.cons (i := 0) (o := ?oob8) ?hob8 (fun K hK => ?hstepb8) ?moreb8
          case hob8 => simp only [List.getElem?_toArray, List.getElem?_cons_zero, List.getElem?_cons_succ]; rfl
          case hstepb8 =>
            go_simp
            clear hHeld
            refine hK.out _ _ (Below.drew (keep_below_alloc hw _)) (fun hHeld => ?_)
            clear hK K
            (try simp only [Act.put, List.setIfInBounds_toArray, List.set_cons_zero, List.set_cons_succ])
            refine wpAnyH_name hHeld (fun wab8 hHa hwz => ?_)
            have hbA : Below w.heap.size w wab8 := by rw [hwz]; exact Below.drew ((Below.refl w.heap.size w).alloc (Nat.le_refl _) _)
            have hwo := hw.size
            replace h := h.below hbA
            replace hw := keep_below hbA hw
            have hown : wab8.ownsRow w.heap.size 3 1 (.slice (some ⟨w.heap.size, 0, none⟩) 0 0) 0 (i64s []) := by rw [hwz]; exact own_empty w w.heap.size w.heap.size rfl hwo
            clear hHeld hbA hwz
            have hHeld := hHa
            clear hHa
            refine wpAnyH_ready (rs := [4, 6]) (by kernel_rfl) (by simp) ?_
            refine AllReadyH.cons (i := 4) (o := ?oob9) ?hob9 (fun K hK => ?hstepb9) ?moreb9
            case hob9 => simp only [List.getElem?_toArray, List.getElem?_cons_zero, List.getElem?_cons_succ]; rfl
            case hstepb9 =>
              clear hHeld
              refine step_append_elder _ (by rfl) _ _ 22 (by rfl) w.heap.size 3 i0 (.int .i64 0) 1 8 Try.underlying22 hi hz0 hz1 hz2 rfl (by decide) _ _ _ (by rfl) hown ⟨g, 0, none⟩ _ _ ([]) (by rfl) (rfl) (fun j u hu => by simp at hu) (fun u hu => by simp at hu) (by unfold maxLen; omega) (by omega) hw.size ?_
              intro v' wpb9 hown1 hgrow hat hel
              have hrow1 := h.grown hgrow (fun e => by have := (hown.lt g e.symm).1; omega)
              have hw1 := Below.grown hw hgrow hw.size (fun g9 hg9 => (hown.lt g9 hg9).1)
              clear hown hgrow hat hel h hw
              have h := hrow1
              have hown := hown1
              have hw := hw1
              clear hrow1 hown1 hw1
              refine hK.out _ _ (hw) (fun hHeld => ?_)
              clear hK K
              (try simp only [Act.put, List.setIfInBounds_toArray, List.set_cons_zero, List.set_cons_succ])
              refine wpAnyH_ready (rs := [6]) (by kernel_rfl) (by simp) ?_
              refine AllReadyH.cons (i := 6) (o := ?oob10) ?hob10 (fun K hK => ?hstepb10) AllReadyH.nil
              case hob10 => simp only [List.getElem?_toArray, List.getElem?_cons_zero, List.getElem?_cons_succ]; rfl
              go_simp
              clear hHeld
              refine hK.out _ _ (keep_below_alloc hw _) (fun hHeld => ?_)
              clear hK K
              (try simp only [Act.put, List.setIfInBounds_toArray, List.set_cons_zero, List.set_cons_succ])
              refine wpAnyH_name hHeld (fun wab10 hHa hwz => ?_)
              have hbA : Below wpb9.heap.size wpb9 wab10 := by rw [hwz]; exact (Below.refl wpb9.heap.size wpb9).alloc (Nat.le_refl _) _
              have hneN := own_ne_ge (g := wpb9.heap.size) hown (Nat.le_refl _)
              replace h := h.below hbA
              replace hown := own_below hown hbA
              replace hw := keep_below hbA hw
              have hnx : RowX wab10 wpb9.heap.size [v] := by rw [hwz]; exact RowX.new wpb9 [v] rfl
              generalize wpb9.heap.size = gN at hnx hneN ⊢
              clear hHeld hbA hwz
              have hHeld := hHa
              clear hHa
              refine wpAnyH_ready (rs := [7]) (by kernel_rfl) (by simp) ?_
              refine AllReadyH.cons (i := 7) (o := ?oob11) ?hob11 (fun K hK => ?hstepb11) AllReadyH.nil
              case hob11 => simp only [List.getElem?_toArray, List.getElem?_cons_zero, List.getElem?_cons_succ]; rfl
              clear hHeld
              refine step_append_elder _ (by rfl) _ _ 22 (by rfl) w.heap.size 3 i0 (.int .i64 0) 1 8 Try.underlying22 hi hz0 hz1 hz2 rfl (by decide) _ _ _ (by rfl) hown ⟨gN, 0, none⟩ _ _ ([.int .i64 v]) (by rfl) (rfl) (hnx.news) (by simp [Value.oneCell']) (by unfold maxLen; omega) (by omega) hw.size ?_
              intro v' wpb11 hown1 hgrow hat hel
              have hrow1 := h.grown hgrow (fun e => by have := (hown.lt g e.symm).1; omega)
              have hw1 := Below.grown hw hgrow hw.size (fun g9 hg9 => (hown.lt g9 hg9).1)
              clear hnx hneN hown hgrow hat hel h hw
              have h := hrow1
              have hown := hown1
              have hw := hw1
              clear hrow1 hown1 hw1
              refine hK.out _ _ (hw) (fun hHeld => ?_)
              clear hK K
              (try simp only [Act.put, List.setIfInBounds_toArray, List.set_cons_zero, List.set_cons_succ])
              refine wpAnyH_ready (rs := [11]) (by kernel_rfl) (by simp) ?_
              refine AllReadyH.cons (i := 11) (o := ?oob12) ?hob12 (fun K hK => ?hstepb12) AllReadyH.nil
              case hob12 => simp only [List.getElem?_toArray, List.getElem?_cons_zero, List.getElem?_cons_succ]; rfl
              clear hHeld
              refine step_append_elder _ (by rfl) _ _ 22 (by rfl) w.heap.size 3 i0 (.int .i64 0) 1 8 Try.underlying22 hi hz0 hz1 hz2 rfl (by decide) _ _ _ (by rfl) hown ⟨g, 0, none⟩ _ _ ([]) (by rfl) (rfl) (fun j u hu => by simp at hu) (fun u hu => by simp at hu) (by unfold maxLen; omega) (by omega) hw.size ?_
              intro v' wpb12 hown1 hgrow hat hel
              have hrow1 := h.grown hgrow (fun e => by have := (hown.lt g e.symm).1; omega)
              have hw1 := Below.grown hw hgrow hw.size (fun g9 hg9 => (hown.lt g9 hg9).1)
              clear hown hgrow hat hel h hw
              have h := hrow1
              have hown := hown1
              have hw := hw1
              clear hrow1 hown1 hw1
              refine hK.out _ _ (hw) (fun hHeld => ?_)
              clear hK K
              (try simp only [Act.put, List.setIfInBounds_toArray, List.set_cons_zero, List.set_cons_succ])
              refine wpAnyH_take (i := 12) (oi := ?oob13) (v := ?vvb13) ?hib13 (by kernel_rfl) (by kernel_rfl) (by kernel_rfl) ?hqb13 (Or.inl ⟨?hgb13, ?hyb13⟩) (by assumption) ?restb13
              case hib13 => simp only [List.getElem?_toArray, List.getElem?_cons_zero, List.getElem?_cons_succ]; rfl
              case hqb13 => exact fun _ _ _ h => h
              case hgb13 => rfl
              case hyb13 =>
                intro wq hSw
                go_simp
                (try with_reducible rfl)
              (try simp only [Act.put, List.setIfInBounds_toArray, List.set_cons_zero, List.set_cons_succ])
              clear hHeld
              refine wpAnyH_done (by kernel_rfl) ?_ _
              go_wp2
              go_ret
              obtain ⟨g', c', rfl, hg', hc', hr'⟩ := own_head (xs := putM [] (0) v) (by simpa [putM, i64s] using hown) (by omega)
              exact ⟨putM [] (0) v, g', c', rfl, hr', hc', .inr hg', HM.out, put_mem, hw⟩
            refine AllReadyH.cons (i := 6) (o := ?oob14) ?hob14 (fun K hK => ?hstepb14) ?moreb14
            case hob14 => simp only [List.getElem?_toArray, List.getElem?_cons_zero, List.getElem?_cons_succ]; rfl
            case hstepb14 =>
              go_simp
              clear hHeld
              refine hK.out _ _ (keep_below_alloc hw _) (fun hHeld => ?_)
              clear hK K
              (try simp only [Act.put, List.setIfInBounds_toArray, List.set_cons_zero, List.set_cons_succ])
              refine wpAnyH_name hHeld (fun wab14 hHa hwz => ?_)
              have hbA : Below wab8.heap.size wab8 wab14 := by rw [hwz]; exact (Below.refl wab8.heap.size wab8).alloc (Nat.le_refl _) _
              have hneN := own_ne_ge (g := wab8.heap.size) hown (Nat.le_refl _)
              replace h := h.below hbA
              replace hown := own_below hown hbA
              replace hw := keep_below hbA hw
              have hnx : RowX wab14 wab8.heap.size [v] := by rw [hwz]; exact RowX.new wab8 [v] rfl
              generalize wab8.heap.size = gN at hnx hneN ⊢
              clear hHeld hbA hwz
              have hHeld := hHa
              clear hHa
              refine wpAnyH_ready (rs := [4]) (by kernel_rfl) (by simp) ?_
              refine AllReadyH.cons (i := 4) (o := ?oob15) ?hob15 (fun K hK => ?hstepb15) AllReadyH.nil
              case hob15 => simp only [List.getElem?_toArray, List.getElem?_cons_zero, List.getElem?_cons_succ]; rfl
              clear hHeld
              refine step_append_elder _ (by rfl) _ _ 22 (by rfl) w.heap.size 3 i0 (.int .i64 0) 1 8 Try.underlying22 hi hz0 hz1 hz2 rfl (by decide) _ _ _ (by rfl) hown ⟨g, 0, none⟩ _ _ ([]) (by rfl) (rfl) (fun j u hu => by simp at hu) (fun u hu => by simp at hu) (by unfold maxLen; omega) (by omega) hw.size ?_
              intro v' wpb15 hown1 hgrow hat hel
              have hrow1 := h.grown hgrow (fun e => by have := (hown.lt g e.symm).1; omega)
              have hnx1 := hnx.grown hgrow hneN
              have hneN1 : v'.ownBlock ≠ some gN := by
                rcases hat with e | e
                · rw [e]; exact hneN
                · rw [e]; intro h'; injection h' with h'; have := hnx.lt; omega
              clear hnx hneN
              have hnx := hnx1
              have hneN := hneN1
              clear hnx1 hneN1
              have hw1 := Below.grown hw hgrow hw.size (fun g9 hg9 => (hown.lt g9 hg9).1)
              clear hown hgrow hat hel h hw
              have h := hrow1
              have hown := hown1
              have hw := hw1
              clear hrow1 hown1 hw1
              refine hK.out _ _ (hw) (fun hHeld => ?_)
              clear hK K
              (try simp only [Act.put, List.setIfInBounds_toArray, List.set_cons_zero, List.set_cons_succ])
              refine wpAnyH_ready (rs := [7]) (by kernel_rfl) (by simp) ?_
              refine AllReadyH.cons (i := 7) (o := ?oob16) ?hob16 (fun K hK => ?hstepb16) AllReadyH.nil
              case hob16 => simp only [List.getElem?_toArray, List.getElem?_cons_zero, List.getElem?_cons_succ]; rfl
              clear hHeld
              refine step_append_elder _ (by rfl) _ _ 22 (by rfl) w.heap.size 3 i0 (.int .i64 0) 1 8 Try.underlying22 hi hz0 hz1 hz2 rfl (by decide) _ _ _ (by rfl) hown ⟨gN, 0, none⟩ _ _ ([.int .i64 v]) (by rfl) (rfl) (hnx.news) (by simp [Value.oneCell']) (by unfold maxLen; omega) (by omega) hw.size ?_
              intro v' wpb16 hown1 hgrow hat hel
              have hrow1 := h.grown hgrow (fun e => by have := (hown.lt g e.symm).1; omega)
              have hw1 := Below.grown hw hgrow hw.size (fun g9 hg9 => (hown.lt g9 hg9).1)
              clear hnx hneN hown hgrow hat hel h hw
              have h := hrow1
              have hown := hown1
              have hw := hw1
              clear hrow1 hown1 hw1
              refine hK.out _ _ (hw) (fun hHeld => ?_)
              clear hK K
              (try simp only [Act.put, List.setIfInBounds_toArray, List.set_cons_zero, List.set_cons_succ])
              refine wpAnyH_ready (rs := [11]) (by kernel_rfl) (by simp) ?_
              refine AllReadyH.cons (i := 11) (o := ?oob17) ?hob17 (fun K hK => ?hstepb17) AllReadyH.nil
              case hob17 => simp only [List.getElem?_toArray, List.getElem?_cons_zero, List.getElem?_cons_succ]; rfl
              clear hHeld
              refine step_append_elder _ (by rfl) _ _ 22 (by rfl) w.heap.size 3 i0 (.int .i64 0) 1 8 Try.underlying22 hi hz0 hz1 hz2 rfl (by decide) _ _ _ (by rfl) hown ⟨g, 0, none⟩ _ _ ([]) (by rfl) (rfl) (fun j u hu => by simp at hu) (fun u hu => by simp at hu) (by unfold maxLen; omega) (by omega) hw.size ?_
              intro v' wpb17 hown1 hgrow hat hel
              have hrow1 := h.grown hgrow (fun e => by have := (hown.lt g e.symm).1; omega)
              have hw1 := Below.grown hw hgrow hw.size (fun g9 hg9 => (hown.lt g9 hg9).1)
              clear hown hgrow hat hel h hw
              have h := hrow1
              have hown := hown1
              have hw := hw1
              clear hrow1 hown1 hw1
              refine hK.out _ _ (hw) (fun hHeld => ?_)
              clear hK K
              (try simp only [Act.put, List.setIfInBounds_toArray, List.set_cons_zero, List.set_cons_succ])
              refine wpAnyH_take (i := 12) (oi := ?oob18) (v := ?vvb18) ?hib18 (by kernel_rfl) (by kernel_rfl) (by kernel_rfl) ?hqb18 (Or.inl ⟨?hgb18, ?hyb18⟩) (by assumption) ?restb18
              case hib18 => simp only [List.getElem?_toArray, List.getElem?_cons_zero, List.getElem?_cons_succ]; rfl
              case hqb18 => exact fun _ _ _ h => h
              case hgb18 => rfl
              case hyb18 =>
                intro wq hSw
                go_simp
                (try with_reducible rfl)
              (try simp only [Act.put, List.setIfInBounds_toArray, List.set_cons_zero, List.set_cons_succ])
              clear hHeld
              refine wpAnyH_done (by kernel_rfl) ?_ _
              go_wp2
              go_ret
              obtain ⟨g', c', rfl, hg', hc', hr'⟩ := own_head (xs := putM [] (0) v) (by simpa [putM, i64s] using hown) (by omega)
              exact ⟨putM [] (0) v, g', c', rfl, hr', hc', .inr hg', HM.out, put_mem, hw⟩
            exact AllReadyH.nil
          refine AllReadyH.cons (i := 6) (o := ?oob19) ?hob19 (fun K hK => ?hstepb19) ?moreb19
          case hob19 => simp only [List.getElem?_toArray, List.getElem?_cons_zero, List.getElem?_cons_succ]; rfl
          case hstepb19 =>
            go_simp
            clear hHeld
            refine hK.out _ _ (Below.drew (keep_below_alloc hw _)) (fun hHeld => ?_)
            clear hK K
            (try simp only [Act.put, List.setIfInBounds_toArray, List.set_cons_zero, List.set_cons_succ])
            refine wpAnyH_name hHeld (fun wab19 hHa hwz => ?_)
            have hbA : Below w.heap.size w wab19 := by rw [hwz]; exact Below.drew ((Below.refl w.heap.size w).alloc (Nat.le_refl _) _)
            replace h := h.below hbA
            replace hw := keep_below hbA hw
            have hnx : RowX wab19 w.heap.size [v] := by rw [hwz]; exact RowX.new w [v] rfl
            clear hHeld hbA hwz
            have hHeld := hHa
            clear hHa
            refine wpAnyH_ready (rs := [0]) (by kernel_rfl) (by simp) ?_
            refine AllReadyH.cons (i := 0) (o := ?oob20) ?hob20 (fun K hK => ?hstepb20) AllReadyH.nil
            case hob20 => simp only [List.getElem?_toArray, List.getElem?_cons_zero, List.getElem?_cons_succ]; rfl
            go_simp
            clear hHeld
            refine hK.out _ _ (keep_below_alloc hw _) (fun hHeld => ?_)
            clear hK K
            (try simp only [Act.put, List.setIfInBounds_toArray, List.set_cons_zero, List.set_cons_succ])
            refine wpAnyH_name hHeld (fun wab20 hHa hwz => ?_)
            have hbA : Below wab19.heap.size wab19 wab20 := by rw [hwz]; exact (Below.refl wab19.heap.size wab19).alloc (Nat.le_refl _) _
            have hwo := hw.size
            have hgN := hnx.lt
            replace h := h.below hbA
            replace hnx := hnx.below hbA
            replace hw := keep_below hbA hw
            have hown : wab20.ownsRow w.heap.size 3 1 (.slice (some ⟨wab19.heap.size, 0, none⟩) 0 0) 0 (i64s []) := by rw [hwz]; exact own_empty wab19 w.heap.size wab19.heap.size rfl hwo
            have hneN : (Value.slice (some ⟨wab19.heap.size, 0, none⟩) 0 0).ownBlock ≠ some w.heap.size := by intro h'; injection h' with h'; have h9 : wab19.heap.size = w.heap.size := h'; omega
            clear hHeld hbA hwz
            have hHeld := hHa
            clear hHa
            refine wpAnyH_ready (rs := [4]) (by kernel_rfl) (by simp) ?_
            refine AllReadyH.cons (i := 4) (o := ?oob21) ?hob21 (fun K hK => ?hstepb21) AllReadyH.nil
            case hob21 => simp only [List.getElem?_toArray, List.getElem?_cons_zero, List.getElem?_cons_succ]; rfl
            clear hHeld
            refine step_append_elder _ (by rfl) _ _ 22 (by rfl) w.heap.size 3 i0 (.int .i64 0) 1 8 Try.underlying22 hi hz0 hz1 hz2 rfl (by decide) _ _ _ (by rfl) hown ⟨g, 0, none⟩ _ _ ([]) (by rfl) (rfl) (fun j u hu => by simp at hu) (fun u hu => by simp at hu) (by unfold maxLen; omega) (by omega) hw.size ?_
            intro v' wpb21 hown1 hgrow hat hel
            have hrow1 := h.grown hgrow (fun e => by have := (hown.lt g e.symm).1; omega)
            have hnx1 := hnx.grown hgrow hneN
            have hneN1 : v'.ownBlock ≠ some w.heap.size := by
              rcases hat with e | e
              · rw [e]; exact hneN
              · rw [e]; intro h'; injection h' with h'; have := hnx.lt; omega
            clear hnx hneN
            have hnx := hnx1
            have hneN := hneN1
            clear hnx1 hneN1
            have hw1 := Below.grown hw hgrow hw.size (fun g9 hg9 => (hown.lt g9 hg9).1)
            clear hown hgrow hat hel h hw
            have h := hrow1
            have hown := hown1
            have hw := hw1
            clear hrow1 hown1 hw1
            refine hK.out _ _ (hw) (fun hHeld => ?_)
            clear hK K
            (try simp only [Act.put, List.setIfInBounds_toArray, List.set_cons_zero, List.set_cons_succ])
            refine wpAnyH_ready (rs := [7]) (by kernel_rfl) (by simp) ?_
            refine AllReadyH.cons (i := 7) (o := ?oob22) ?hob22 (fun K hK => ?hstepb22) AllReadyH.nil
            case hob22 => simp only [List.getElem?_toArray, List.getElem?_cons_zero, List.getElem?_cons_succ]; rfl
            clear hHeld
            refine step_append_elder _ (by rfl) _ _ 22 (by rfl) w.heap.size 3 i0 (.int .i64 0) 1 8 Try.underlying22 hi hz0 hz1 hz2 rfl (by decide) _ _ _ (by rfl) hown ⟨w.heap.size, 0, none⟩ _ _ ([.int .i64 v]) (by rfl) (rfl) (hnx.news) (by simp [Value.oneCell']) (by unfold maxLen; omega) (by omega) hw.size ?_
            intro v' wpb22 hown1 hgrow hat hel
            have hrow1 := h.grown hgrow (fun e => by have := (hown.lt g e.symm).1; omega)
            have hw1 := Below.grown hw hgrow hw.size (fun g9 hg9 => (hown.lt g9 hg9).1)
            clear hnx hneN hown hgrow hat hel h hw
            have h := hrow1
            have hown := hown1
            have hw := hw1
            clear hrow1 hown1 hw1
            refine hK.out _ _ (hw) (fun hHeld => ?_)
            clear hK K
            (try simp only [Act.put, List.setIfInBounds_toArray, List.set_cons_zero, List.set_cons_succ])
            refine wpAnyH_ready (rs := [11]) (by kernel_rfl) (by simp) ?_
            refine AllReadyH.cons (i := 11) (o := ?oob23) ?hob23 (fun K hK => ?hstepb23) AllReadyH.nil
            case hob23 => simp only [List.getElem?_toArray, List.getElem?_cons_zero, List.getElem?_cons_succ]; rfl
            clear hHeld
            refine step_append_elder _ (by rfl) _ _ 22 (by rfl) w.heap.size 3 i0 (.int .i64 0) 1 8 Try.underlying22 hi hz0 hz1 hz2 rfl (by decide) _ _ _ (by rfl) hown ⟨g, 0, none⟩ _ _ ([]) (by rfl) (rfl) (fun j u hu => by simp at hu) (fun u hu => by simp at hu) (by unfold maxLen; omega) (by omega) hw.size ?_
            intro v' wpb23 hown1 hgrow hat hel
            have hrow1 := h.grown hgrow (fun e => by have := (hown.lt g e.symm).1; omega)
            have hw1 := Below.grown hw hgrow hw.size (fun g9 hg9 => (hown.lt g9 hg9).1)
            clear hown hgrow hat hel h hw
            have h := hrow1
            have hown := hown1
            have hw := hw1
            clear hrow1 hown1 hw1
            refine hK.out _ _ (hw) (fun hHeld => ?_)
            clear hK K
            (try simp only [Act.put, List.setIfInBounds_toArray, List.set_cons_zero, List.set_cons_succ])
            refine wpAnyH_take (i := 12) (oi := ?oob24) (v := ?vvb24) ?hib24 (by kernel_rfl) (by kernel_rfl) (by kernel_rfl) ?hqb24 (Or.inl ⟨?hgb24, ?hyb24⟩) (by assumption) ?restb24
            case hib24 => simp only [List.getElem?_toArray, List.getElem?_cons_zero, List.getElem?_cons_succ]; rfl
            case hqb24 => exact fun _ _ _ h => h
            case hgb24 => rfl
            case hyb24 =>
              intro wq hSw
              go_simp
              (try with_reducible rfl)
            (try simp only [Act.put, List.setIfInBounds_toArray, List.set_cons_zero, List.set_cons_succ])
            clear hHeld
            refine wpAnyH_done (by kernel_rfl) ?_ _
            go_wp2
            go_ret
            obtain ⟨g', c', rfl, hg', hc', hr'⟩ := own_head (xs := putM [] (0) v) (by simpa [putM, i64s] using hown) (by omega)
            exact ⟨putM [] (0) v, g', c', rfl, hr', hc', .inr hg', HM.out, put_mem, hw⟩
          exact AllReadyH.nil
        · subst hcapk
          go_wp2
          have hw := Below.refl w.heap.size w
          refine wp_region_held_drew (S := fun w' => Below w.heap.size w w') (by kernel_rfl) (hw.drew) (fun hHeld => ?_)
          refine wpAnyH_take (i := 1) (oi := ?ooc1) (v := ?vvc1) ?hic1 (by kernel_rfl) (by kernel_rfl) (by kernel_rfl) ?hqc1 (Or.inl ⟨?hgc1, ?hyc1⟩) (by assumption) ?restc1
          case hic1 => simp only [List.getElem?_toArray, List.getElem?_cons_zero, List.getElem?_cons_succ]; rfl
          case hqc1 => exact fun _ _ _ h => h
          case hgc1 => rfl
          case hyc1 =>
            intro wq hSw
            go_simp
            (try with_reducible rfl)
          (try simp only [Act.put, List.setIfInBounds_toArray, List.set_cons_zero, List.set_cons_succ])
          refine wpAnyH_take (i := 2) (oi := ?ooc2) (v := ?vvc2) ?hic2 (by kernel_rfl) (by kernel_rfl) (by kernel_rfl) ?hqc2 (Or.inl ⟨?hgc2, ?hyc2⟩) (by assumption) ?restc2
          case hic2 => simp only [List.getElem?_toArray, List.getElem?_cons_zero, List.getElem?_cons_succ]; rfl
          case hqc2 => exact fun _ _ _ h => h
          case hgc2 => rfl
          case hyc2 =>
            intro wq hSw
            go_simp
            (try with_reducible rfl)
          (try simp only [Act.put, List.setIfInBounds_toArray, List.set_cons_zero, List.set_cons_succ])
          refine wpAnyH_take (i := 3) (oi := ?ooc3) (v := ?vvc3) ?hic3 (by kernel_rfl) (by kernel_rfl) (by kernel_rfl) ?hqc3 (Or.inl ⟨?hgc3, ?hyc3⟩) (by assumption) ?restc3
          case hic3 => simp only [List.getElem?_toArray, List.getElem?_cons_zero, List.getElem?_cons_succ]; rfl
          case hqc3 => exact fun _ _ _ h => h
          case hgc3 => rfl
          case hyc3 =>
            intro wq hSw
            go_simp
            (try with_reducible rfl)
          (try simp only [Act.put, List.setIfInBounds_toArray, List.set_cons_zero, List.set_cons_succ])
          refine wpAnyH_take (i := 5) (oi := ?ooc4) (v := ?vvc4) ?hic4 (by kernel_rfl) (by kernel_rfl) (by kernel_rfl) ?hqc4 (Or.inl ⟨?hgc4, ?hyc4⟩) (by assumption) ?restc4
          case hic4 => simp only [List.getElem?_toArray, List.getElem?_cons_zero, List.getElem?_cons_succ]; rfl
          case hqc4 => exact fun _ _ _ h => h
          case hgc4 => rfl
          case hyc4 =>
            intro wq hSw
            go_simp
            (try with_reducible rfl)
          (try simp only [Act.put, List.setIfInBounds_toArray, List.set_cons_zero, List.set_cons_succ])
          refine wpAnyH_take (i := 8) (oi := ?ooc5) (v := ?vvc5) ?hic5 (by kernel_rfl) (by kernel_rfl) (by kernel_rfl) ?hqc5 (Or.inl ⟨?hgc5, ?hyc5⟩) (by assumption) ?restc5
          case hic5 => simp only [List.getElem?_toArray, List.getElem?_cons_zero, List.getElem?_cons_succ]; rfl
          case hqc5 => exact fun _ _ _ h => h
          case hgc5 => rfl
          case hyc5 =>
            intro wq hSw
            go_simp
            (try with_reducible rfl)
          (try simp only [Act.put, List.setIfInBounds_toArray, List.set_cons_zero, List.set_cons_succ])
          refine wpAnyH_take (i := 9) (oi := ?ooc6) (v := ?vvc6) ?hic6 (by kernel_rfl) (by kernel_rfl) (by kernel_rfl) ?hqc6 (Or.inl ⟨?hgc6, ?hyc6⟩) (by assumption) ?restc6
          case hic6 => simp only [List.getElem?_toArray, List.getElem?_cons_zero, List.getElem?_cons_succ]; rfl
          case hqc6 => exact fun _ _ _ h => h
          case hgc6 => rfl
          case hyc6 =>
            intro wq hSw
            go_simp
            (try with_reducible rfl)
          (try simp only [Act.put, List.setIfInBounds_toArray, List.set_cons_zero, List.set_cons_succ])
          refine wpAnyH_take (i := 10) (oi := ?ooc7) (v := ?vvc7) ?hic7 (by kernel_rfl) (by kernel_rfl) (by kernel_rfl) ?hqc7 (Or.inl ⟨?hgc7, ?hyc7⟩) (by assumption) ?restc7
          case hic7 => simp only [List.getElem?_toArray, List.getElem?_cons_zero, List.getElem?_cons_succ]; rfl
          case hqc7 => exact fun _ _ _ h => h
          case hgc7 => rfl
          case hyc7 =>
            intro wq hSw
            go_simp
            (try with_reducible rfl)
          (try simp only [Act.put, List.setIfInBounds_toArray, List.set_cons_zero, List.set_cons_succ])
          refine wpAnyH_ready (rs := [0, 6]) (by kernel_rfl) (by simp) ?_
          refine AllReadyH.cons (i := 0) (o := ?ooc8) ?hoc8 (fun K hK => ?hstepc8) ?morec8
          case hoc8 => simp only [List.getElem?_toArray, List.getElem?_cons_zero, List.getElem?_cons_succ]; rfl
          case hstepc8 =>
            go_simp
            clear hHeld
            refine hK.out _ _ (Below.drew (keep_below_alloc hw _)) (fun hHeld => ?_)
            clear hK K
            (try simp only [Act.put, List.setIfInBounds_toArray, List.set_cons_zero, List.set_cons_succ])
            refine wpAnyH_name hHeld (fun wac8 hHa hwz => ?_)
            have hbA : Below w.heap.size w wac8 := by rw [hwz]; exact Below.drew ((Below.refl w.heap.size w).alloc (Nat.le_refl _) _)
            have hwo := hw.size
            replace h := h.below hbA
            replace hw := keep_below hbA hw
            have hown : wac8.ownsRow w.heap.size 3 1 (.slice (some ⟨w.heap.size, 0, none⟩) 0 0) 0 (i64s []) := by rw [hwz]; exact own_empty w w.heap.size w.heap.size rfl hwo
            clear hHeld hbA hwz
            have hHeld := hHa
            clear hHa
            refine wpAnyH_ready (rs := [4, 6]) (by kernel_rfl) (by simp) ?_
            refine AllReadyH.cons (i := 4) (o := ?ooc9) ?hoc9 (fun K hK => ?hstepc9) ?morec9
            case hoc9 => simp only [List.getElem?_toArray, List.getElem?_cons_zero, List.getElem?_cons_succ]; rfl
            case hstepc9 =>
              clear hHeld
              refine step_append_elder _ (by rfl) _ _ 22 (by rfl) w.heap.size 3 i0 (.int .i64 0) 1 8 Try.underlying22 hi hz0 hz1 hz2 rfl (by decide) _ _ _ (by rfl) hown ⟨g, 0, none⟩ _ _ (i64s (L.take (cap))) (by rfl) (by simp [i64s]; omega) (h.part 0 (fun j hj => by first | (simp at hj; done) | simp at hj; rw [nth_get (show j < (L.take (cap)).length by simp; omega), nth_get (show 0 + j < L.length by omega)]; exact ⟨by omega, by simp⟩)) (i64s_cells) (by unfold maxLen; omega) (by omega) hw.size ?_
              intro v' wpc9 hown1 hgrow hat hel
              have hrow1 := h.grown hgrow (fun e => by have := (hown.lt g e.symm).1; omega)
              have hw1 := Below.grown hw hgrow hw.size (fun g9 hg9 => (hown.lt g9 hg9).1)
              clear hown hgrow hat hel h hw
              have h := hrow1
              have hown := hown1
              have hw := hw1
              clear hrow1 hown1 hw1
              refine hK.out _ _ (hw) (fun hHeld => ?_)
              clear hK K
              (try simp only [Act.put, List.setIfInBounds_toArray, List.set_cons_zero, List.set_cons_succ])
              refine wpAnyH_ready (rs := [6]) (by kernel_rfl) (by simp) ?_
              refine AllReadyH.cons (i := 6) (o := ?ooc10) ?hoc10 (fun K hK => ?hstepc10) AllReadyH.nil
              case hoc10 => simp only [List.getElem?_toArray, List.getElem?_cons_zero, List.getElem?_cons_succ]; rfl
              go_simp
              clear hHeld
              refine hK.out _ _ (keep_below_alloc hw _) (fun hHeld => ?_)
              clear hK K
              (try simp only [Act.put, List.setIfInBounds_toArray, List.set_cons_zero, List.set_cons_succ])
              refine wpAnyH_name hHeld (fun wac10 hHa hwz => ?_)
              have hbA : Below wpc9.heap.size wpc9 wac10 := by rw [hwz]; exact (Below.refl wpc9.heap.size wpc9).alloc (Nat.le_refl _) _
              have hneN := own_ne_ge (g := wpc9.heap.size) hown (Nat.le_refl _)
              replace h := h.below hbA
              replace hown := own_below hown hbA
              replace hw := keep_below hbA hw
              have hnx : RowX wac10 wpc9.heap.size [v] := by rw [hwz]; exact RowX.new wpc9 [v] rfl
              generalize wpc9.heap.size = gN at hnx hneN ⊢
              clear hHeld hbA hwz
              have hHeld := hHa
              clear hHa
              refine wpAnyH_ready (rs := [7]) (by kernel_rfl) (by simp) ?_
              refine AllReadyH.cons (i := 7) (o := ?ooc11) ?hoc11 (fun K hK => ?hstepc11) AllReadyH.nil
              case hoc11 => simp only [List.getElem?_toArray, List.getElem?_cons_zero, List.getElem?_cons_succ]; rfl
              clear hHeld
              refine step_append_elder _ (by rfl) _ _ 22 (by rfl) w.heap.size 3 i0 (.int .i64 0) 1 8 Try.underlying22 hi hz0 hz1 hz2 rfl (by decide) _ _ _ (by rfl) hown ⟨gN, 0, none⟩ _ _ ([.int .i64 v]) (by rfl) (rfl) (hnx.news) (by simp [Value.oneCell']) (by unfold maxLen; omega) (by omega) hw.size ?_
              intro v' wpc11 hown1 hgrow hat hel
              have hrow1 := h.grown hgrow (fun e => by have := (hown.lt g e.symm).1; omega)
              have hw1 := Below.grown hw hgrow hw.size (fun g9 hg9 => (hown.lt g9 hg9).1)
              clear hnx hneN hown hgrow hat hel h hw
              have h := hrow1
              have hown := hown1
              have hw := hw1
              clear hrow1 hown1 hw1
              refine hK.out _ _ (hw) (fun hHeld => ?_)
              clear hK K
              (try simp only [Act.put, List.setIfInBounds_toArray, List.set_cons_zero, List.set_cons_succ])
              refine wpAnyH_ready (rs := [11]) (by kernel_rfl) (by simp) ?_
              refine AllReadyH.cons (i := 11) (o := ?ooc12) ?hoc12 (fun K hK => ?hstepc12) AllReadyH.nil
              case hoc12 => simp only [List.getElem?_toArray, List.getElem?_cons_zero, List.getElem?_cons_succ]; rfl
              clear hHeld
              refine step_append_elder _ (by rfl) _ _ 22 (by rfl) w.heap.size 3 i0 (.int .i64 0) 1 8 Try.underlying22 hi hz0 hz1 hz2 rfl (by decide) _ _ _ (by rfl) hown ⟨g, 0, none⟩ _ _ ([]) (by rfl) (rfl) (fun j u hu => by simp at hu) (fun u hu => by simp at hu) (by unfold maxLen; omega) (by omega) hw.size ?_
              intro v' wpc12 hown1 hgrow hat hel
              have hrow1 := h.grown hgrow (fun e => by have := (hown.lt g e.symm).1; omega)
              have hw1 := Below.grown hw hgrow hw.size (fun g9 hg9 => (hown.lt g9 hg9).1)
              clear hown hgrow hat hel h hw
              have h := hrow1
              have hown := hown1
              have hw := hw1
              clear hrow1 hown1 hw1
              refine hK.out _ _ (hw) (fun hHeld => ?_)
              clear hK K
              (try simp only [Act.put, List.setIfInBounds_toArray, List.set_cons_zero, List.set_cons_succ])
              refine wpAnyH_take (i := 12) (oi := ?ooc13) (v := ?vvc13) ?hic13 (by kernel_rfl) (by kernel_rfl) (by kernel_rfl) ?hqc13 (Or.inl ⟨?hgc13, ?hyc13⟩) (by assumption) ?restc13
              case hic13 => simp only [List.getElem?_toArray, List.getElem?_cons_zero, List.getElem?_cons_succ]; rfl
              case hqc13 => exact fun _ _ _ h => h
              case hgc13 => rfl
              case hyc13 =>
                intro wq hSw
                go_simp
                (try with_reducible rfl)
              (try simp only [Act.put, List.setIfInBounds_toArray, List.set_cons_zero, List.set_cons_succ])
              clear hHeld
              refine wpAnyH_done (by kernel_rfl) ?_ _
              go_wp2
              go_ret
              obtain ⟨g', c', rfl, hg', hc', hr'⟩ := own_head (xs := putM L (cap) v) (by simpa [putM, i64s, List.drop_eq_nil_of_le hcap] using hown) (by omega)
              exact ⟨putM L (cap) v, g', c', rfl, hr', hc', .inr hg', HM.out, put_mem, hw⟩
            refine AllReadyH.cons (i := 6) (o := ?ooc14) ?hoc14 (fun K hK => ?hstepc14) ?morec14
            case hoc14 => simp only [List.getElem?_toArray, List.getElem?_cons_zero, List.getElem?_cons_succ]; rfl
            case hstepc14 =>
              go_simp
              clear hHeld
              refine hK.out _ _ (keep_below_alloc hw _) (fun hHeld => ?_)
              clear hK K
              (try simp only [Act.put, List.setIfInBounds_toArray, List.set_cons_zero, List.set_cons_succ])
              refine wpAnyH_name hHeld (fun wac14 hHa hwz => ?_)
              have hbA : Below wac8.heap.size wac8 wac14 := by rw [hwz]; exact (Below.refl wac8.heap.size wac8).alloc (Nat.le_refl _) _
              have hneN := own_ne_ge (g := wac8.heap.size) hown (Nat.le_refl _)
              replace h := h.below hbA
              replace hown := own_below hown hbA
              replace hw := keep_below hbA hw
              have hnx : RowX wac14 wac8.heap.size [v] := by rw [hwz]; exact RowX.new wac8 [v] rfl
              generalize wac8.heap.size = gN at hnx hneN ⊢
              clear hHeld hbA hwz
              have hHeld := hHa
              clear hHa
              refine wpAnyH_ready (rs := [4]) (by kernel_rfl) (by simp) ?_
              refine AllReadyH.cons (i := 4) (o := ?ooc15) ?hoc15 (fun K hK => ?hstepc15) AllReadyH.nil
              case hoc15 => simp only [List.getElem?_toArray, List.getElem?_cons_zero, List.getElem?_cons_succ]; rfl
              clear hHeld
              refine step_append_elder _ (by rfl) _ _ 22 (by rfl) w.heap.size 3 i0 (.int .i64 0) 1 8 Try.underlying22 hi hz0 hz1 hz2 rfl (by decide) _ _ _ (by rfl) hown ⟨g, 0, none⟩ _ _ (i64s (L.take (cap))) (by rfl) (by simp [i64s]; omega) (h.part 0 (fun j hj => by first | (simp at hj; done) | simp at hj; rw [nth_get (show j < (L.take (cap)).length by simp; omega), nth_get (show 0 + j < L.length by omega)]; exact ⟨by omega, by simp⟩)) (i64s_cells) (by unfold maxLen; omega) (by omega) hw.size ?_
              intro v' wpc15 hown1 hgrow hat hel
              have hrow1 := h.grown hgrow (fun e => by have := (hown.lt g e.symm).1; omega)
              have hnx1 := hnx.grown hgrow hneN
              have hneN1 : v'.ownBlock ≠ some gN := by
                rcases hat with e | e
                · rw [e]; exact hneN
                · rw [e]; intro h'; injection h' with h'; have := hnx.lt; omega
              clear hnx hneN
              have hnx := hnx1
              have hneN := hneN1
              clear hnx1 hneN1
              have hw1 := Below.grown hw hgrow hw.size (fun g9 hg9 => (hown.lt g9 hg9).1)
              clear hown hgrow hat hel h hw
              have h := hrow1
              have hown := hown1
              have hw := hw1
              clear hrow1 hown1 hw1
              refine hK.out _ _ (hw) (fun hHeld => ?_)
              clear hK K
              (try simp only [Act.put, List.setIfInBounds_toArray, List.set_cons_zero, List.set_cons_succ])
              refine wpAnyH_ready (rs := [7]) (by kernel_rfl) (by simp) ?_
              refine AllReadyH.cons (i := 7) (o := ?ooc16) ?hoc16 (fun K hK => ?hstepc16) AllReadyH.nil
              case hoc16 => simp only [List.getElem?_toArray, List.getElem?_cons_zero, List.getElem?_cons_succ]; rfl
              clear hHeld
              refine step_append_elder _ (by rfl) _ _ 22 (by rfl) w.heap.size 3 i0 (.int .i64 0) 1 8 Try.underlying22 hi hz0 hz1 hz2 rfl (by decide) _ _ _ (by rfl) hown ⟨gN, 0, none⟩ _ _ ([.int .i64 v]) (by rfl) (rfl) (hnx.news) (by simp [Value.oneCell']) (by unfold maxLen; omega) (by omega) hw.size ?_
              intro v' wpc16 hown1 hgrow hat hel
              have hrow1 := h.grown hgrow (fun e => by have := (hown.lt g e.symm).1; omega)
              have hw1 := Below.grown hw hgrow hw.size (fun g9 hg9 => (hown.lt g9 hg9).1)
              clear hnx hneN hown hgrow hat hel h hw
              have h := hrow1
              have hown := hown1
              have hw := hw1
              clear hrow1 hown1 hw1
              refine hK.out _ _ (hw) (fun hHeld => ?_)
              clear hK K
              (try simp only [Act.put, List.setIfInBounds_toArray, List.set_cons_zero, List.set_cons_succ])
              refine wpAnyH_ready (rs := [11]) (by kernel_rfl) (by simp) ?_
              refine AllReadyH.cons (i := 11) (o := ?ooc17) ?hoc17 (fun K hK => ?hstepc17) AllReadyH.nil
              case hoc17 => simp only [List.getElem?_toArray, List.getElem?_cons_zero, List.getElem?_cons_succ]; rfl
              clear hHeld
              refine step_append_elder _ (by rfl) _ _ 22 (by rfl) w.heap.size 3 i0 (.int .i64 0) 1 8 Try.underlying22 hi hz0 hz1 hz2 rfl (by decide) _ _ _ (by rfl) hown ⟨g, 0, none⟩ _ _ ([]) (by rfl) (rfl) (fun j u hu => by simp at hu) (fun u hu => by simp at hu) (by unfold maxLen; omega) (by omega) hw.size ?_
              intro v' wpc17 hown1 hgrow hat hel
              have hrow1 := h.grown hgrow (fun e => by have := (hown.lt g e.symm).1; omega)
              have hw1 := Below.grown hw hgrow hw.size (fun g9 hg9 => (hown.lt g9 hg9).1)
              clear hown hgrow hat hel h hw
              have h := hrow1
              have hown := hown1
              have hw := hw1
              clear hrow1 hown1 hw1
              refine hK.out _ _ (hw) (fun hHeld => ?_)
              clear hK K
              (try simp only [Act.put, List.setIfInBounds_toArray, List.set_cons_zero, List.set_cons_succ])
              refine wpAnyH_take (i := 12) (oi := ?ooc18) (v := ?vvc18) ?hic18 (by kernel_rfl) (by kernel_rfl) (by kernel_rfl) ?hqc18 (Or.inl ⟨?hgc18, ?hyc18⟩) (by assumption) ?restc18
              case hic18 => simp only [List.getElem?_toArray, List.getElem?_cons_zero, List.getElem?_cons_succ]; rfl
              case hqc18 => exact fun _ _ _ h => h
              case hgc18 => rfl
              case hyc18 =>
                intro wq hSw
                go_simp
                (try with_reducible rfl)
              (try simp only [Act.put, List.setIfInBounds_toArray, List.set_cons_zero, List.set_cons_succ])
              clear hHeld
              refine wpAnyH_done (by kernel_rfl) ?_ _
              go_wp2
              go_ret
              obtain ⟨g', c', rfl, hg', hc', hr'⟩ := own_head (xs := putM L (cap) v) (by simpa [putM, i64s, List.drop_eq_nil_of_le hcap] using hown) (by omega)
              exact ⟨putM L (cap) v, g', c', rfl, hr', hc', .inr hg', HM.out, put_mem, hw⟩
            exact AllReadyH.nil
          refine AllReadyH.cons (i := 6) (o := ?ooc19) ?hoc19 (fun K hK => ?hstepc19) ?morec19
          case hoc19 => simp only [List.getElem?_toArray, List.getElem?_cons_zero, List.getElem?_cons_succ]; rfl
          case hstepc19 =>
            go_simp
            clear hHeld
            refine hK.out _ _ (Below.drew (keep_below_alloc hw _)) (fun hHeld => ?_)
            clear hK K
            (try simp only [Act.put, List.setIfInBounds_toArray, List.set_cons_zero, List.set_cons_succ])
            refine wpAnyH_name hHeld (fun wac19 hHa hwz => ?_)
            have hbA : Below w.heap.size w wac19 := by rw [hwz]; exact Below.drew ((Below.refl w.heap.size w).alloc (Nat.le_refl _) _)
            replace h := h.below hbA
            replace hw := keep_below hbA hw
            have hnx : RowX wac19 w.heap.size [v] := by rw [hwz]; exact RowX.new w [v] rfl
            clear hHeld hbA hwz
            have hHeld := hHa
            clear hHa
            refine wpAnyH_ready (rs := [0]) (by kernel_rfl) (by simp) ?_
            refine AllReadyH.cons (i := 0) (o := ?ooc20) ?hoc20 (fun K hK => ?hstepc20) AllReadyH.nil
            case hoc20 => simp only [List.getElem?_toArray, List.getElem?_cons_zero, List.getElem?_cons_succ]; rfl
            go_simp
            clear hHeld
            refine hK.out _ _ (keep_below_alloc hw _) (fun hHeld => ?_)
            clear hK K
            (try simp only [Act.put, List.setIfInBounds_toArray, List.set_cons_zero, List.set_cons_succ])
            refine wpAnyH_name hHeld (fun wac20 hHa hwz => ?_)
            have hbA : Below wac19.heap.size wac19 wac20 := by rw [hwz]; exact (Below.refl wac19.heap.size wac19).alloc (Nat.le_refl _) _
            have hwo := hw.size
            have hgN := hnx.lt
            replace h := h.below hbA
            replace hnx := hnx.below hbA
            replace hw := keep_below hbA hw
            have hown : wac20.ownsRow w.heap.size 3 1 (.slice (some ⟨wac19.heap.size, 0, none⟩) 0 0) 0 (i64s []) := by rw [hwz]; exact own_empty wac19 w.heap.size wac19.heap.size rfl hwo
            have hneN : (Value.slice (some ⟨wac19.heap.size, 0, none⟩) 0 0).ownBlock ≠ some w.heap.size := by intro h'; injection h' with h'; have h9 : wac19.heap.size = w.heap.size := h'; omega
            clear hHeld hbA hwz
            have hHeld := hHa
            clear hHa
            refine wpAnyH_ready (rs := [4]) (by kernel_rfl) (by simp) ?_
            refine AllReadyH.cons (i := 4) (o := ?ooc21) ?hoc21 (fun K hK => ?hstepc21) AllReadyH.nil
            case hoc21 => simp only [List.getElem?_toArray, List.getElem?_cons_zero, List.getElem?_cons_succ]; rfl
            clear hHeld
            refine step_append_elder _ (by rfl) _ _ 22 (by rfl) w.heap.size 3 i0 (.int .i64 0) 1 8 Try.underlying22 hi hz0 hz1 hz2 rfl (by decide) _ _ _ (by rfl) hown ⟨g, 0, none⟩ _ _ (i64s (L.take (cap))) (by rfl) (by simp [i64s]; omega) (h.part 0 (fun j hj => by first | (simp at hj; done) | simp at hj; rw [nth_get (show j < (L.take (cap)).length by simp; omega), nth_get (show 0 + j < L.length by omega)]; exact ⟨by omega, by simp⟩)) (i64s_cells) (by unfold maxLen; omega) (by omega) hw.size ?_
            intro v' wpc21 hown1 hgrow hat hel
            have hrow1 := h.grown hgrow (fun e => by have := (hown.lt g e.symm).1; omega)
            have hnx1 := hnx.grown hgrow hneN
            have hneN1 : v'.ownBlock ≠ some w.heap.size := by
              rcases hat with e | e
              · rw [e]; exact hneN
              · rw [e]; intro h'; injection h' with h'; have := hnx.lt; omega
            clear hnx hneN
            have hnx := hnx1
            have hneN := hneN1
            clear hnx1 hneN1
            have hw1 := Below.grown hw hgrow hw.size (fun g9 hg9 => (hown.lt g9 hg9).1)
            clear hown hgrow hat hel h hw
            have h := hrow1
            have hown := hown1
            have hw := hw1
            clear hrow1 hown1 hw1
            refine hK.out _ _ (hw) (fun hHeld => ?_)
            clear hK K
            (try simp only [Act.put, List.setIfInBounds_toArray, List.set_cons_zero, List.set_cons_succ])
            refine wpAnyH_ready (rs := [7]) (by kernel_rfl) (by simp) ?_
            refine AllReadyH.cons (i := 7) (o := ?ooc22) ?hoc22 (fun K hK => ?hstepc22) AllReadyH.nil
            case hoc22 => simp only [List.getElem?_toArray, List.getElem?_cons_zero, List.getElem?_cons_succ]; rfl
            clear hHeld
            refine step_append_elder _ (by rfl) _ _ 22 (by rfl) w.heap.size 3 i0 (.int .i64 0) 1 8 Try.underlying22 hi hz0 hz1 hz2 rfl (by decide) _ _ _ (by rfl) hown ⟨w.heap.size, 0, none⟩ _ _ ([.int .i64 v]) (by rfl) (rfl) (hnx.news) (by simp [Value.oneCell']) (by unfold maxLen; omega) (by omega) hw.size ?_
            intro v' wpc22 hown1 hgrow hat hel
            have hrow1 := h.grown hgrow (fun e => by have := (hown.lt g e.symm).1; omega)
            have hw1 := Below.grown hw hgrow hw.size (fun g9 hg9 => (hown.lt g9 hg9).1)
            clear hnx hneN hown hgrow hat hel h hw
            have h := hrow1
            have hown := hown1
            have hw := hw1
            clear hrow1 hown1 hw1
            refine hK.out _ _ (hw) (fun hHeld => ?_)
            clear hK K
            (try simp only [Act.put, List.setIfInBounds_toArray, List.set_cons_zero, List.set_cons_succ])
            refine wpAnyH_ready (rs := [11]) (by kernel_rfl) (by simp) ?_
            refine AllReadyH.cons (i := 11) (o := ?ooc23) ?hoc23 (fun K hK => ?hstepc23) AllReadyH.nil
            case hoc23 => simp only [List.getElem?_toArray, List.getElem?_cons_zero, List.getElem?_cons_succ]; rfl
            clear hHeld
            refine step_append_elder _ (by rfl) _ _ 22 (by rfl) w.heap.size 3 i0 (.int .i64 0) 1 8 Try.underlying22 hi hz0 hz1 hz2 rfl (by decide) _ _ _ (by rfl) hown ⟨g, 0, none⟩ _ _ ([]) (by rfl) (rfl) (fun j u hu => by simp at hu) (fun u hu => by simp at hu) (by unfold maxLen; omega) (by omega) hw.size ?_
            intro v' wpc23 hown1 hgrow hat hel
            have hrow1 := h.grown hgrow (fun e => by have := (hown.lt g e.symm).1; omega)
            have hw1 := Below.grown hw hgrow hw.size (fun g9 hg9 => (hown.lt g9 hg9).1)
            clear hown hgrow hat hel h hw
            have h := hrow1
            have hown := hown1
            have hw := hw1
            clear hrow1 hown1 hw1
            refine hK.out _ _ (hw) (fun hHeld => ?_)
            clear hK K
            (try simp only [Act.put, List.setIfInBounds_toArray, List.set_cons_zero, List.set_cons_succ])
            refine wpAnyH_take (i := 12) (oi := ?ooc24) (v := ?vvc24) ?hic24 (by kernel_rfl) (by kernel_rfl) (by kernel_rfl) ?hqc24 (Or.inl ⟨?hgc24, ?hyc24⟩) (by assumption) ?restc24
            case hic24 => simp only [List.getElem?_toArray, List.getElem?_cons_zero, List.getElem?_cons_succ]; rfl
            case hqc24 => exact fun _ _ _ h => h
            case hgc24 => rfl
            case hyc24 =>
              intro wq hSw
              go_simp
              (try with_reducible rfl)
            (try simp only [Act.put, List.setIfInBounds_toArray, List.set_cons_zero, List.set_cons_succ])
            clear hHeld
            refine wpAnyH_done (by kernel_rfl) ?_ _
            go_wp2
            go_ret
            obtain ⟨g', c', rfl, hg', hc', hr'⟩ := own_head (xs := putM L (cap) v) (by simpa [putM, i64s, List.drop_eq_nil_of_le hcap] using hown) (by omega)
            exact ⟨putM L (cap) v, g', c', rfl, hr', hc', .inr hg', HM.out, put_mem, hw⟩
          exact AllReadyH.nil
      · have hcap0 : ¬ cap = 0 := by omega
        go_wp2
        have hw := Below.refl w.heap.size w
        refine wp_region_held_drew (S := fun w' => Below w.heap.size w w') (by kernel_rfl) (hw.drew) (fun hHeld => ?_)
        refine wpAnyH_take (i := 1) (oi := ?ood1) (v := ?vvd1) ?hid1 (by kernel_rfl) (by kernel_rfl) (by kernel_rfl) ?hqd1 (Or.inl ⟨?hgd1, ?hyd1⟩) (by assumption) ?restd1
        case hid1 => simp only [List.getElem?_toArray, List.getElem?_cons_zero, List.getElem?_cons_succ]; rfl
        case hqd1 => exact fun _ _ _ h => h
        case hgd1 => rfl
        case hyd1 =>
          intro wq hSw
          go_simp
          (try with_reducible rfl)
        (try simp only [Act.put, List.setIfInBounds_toArray, List.set_cons_zero, List.set_cons_succ])
        refine wpAnyH_take (i := 2) (oi := ?ood2) (v := ?vvd2) ?hid2 (by kernel_rfl) (by kernel_rfl) (by kernel_rfl) ?hqd2 (Or.inl ⟨?hgd2, ?hyd2⟩) (by assumption) ?restd2
        case hid2 => simp only [List.getElem?_toArray, List.getElem?_cons_zero, List.getElem?_cons_succ]; rfl
        case hqd2 => exact fun _ _ _ h => h
        case hgd2 => rfl
        case hyd2 =>
          intro wq hSw
          go_simp
          (try with_reducible rfl)
        (try simp only [Act.put, List.setIfInBounds_toArray, List.set_cons_zero, List.set_cons_succ])
        refine wpAnyH_take (i := 3) (oi := ?ood3) (v := ?vvd3) ?hid3 (by kernel_rfl) (by kernel_rfl) (by kernel_rfl) ?hqd3 (Or.inl ⟨?hgd3, ?hyd3⟩) (by assumption) ?restd3
        case hid3 => simp only [List.getElem?_toArray, List.getElem?_cons_zero, List.getElem?_cons_succ]; rfl
        case hqd3 => exact fun _ _ _ h => h
        case hgd3 => rfl
        case hyd3 =>
          intro wq hSw
          go_simp
          (try with_reducible rfl)
        (try simp only [Act.put, List.setIfInBounds_toArray, List.set_cons_zero, List.set_cons_succ])
        refine wpAnyH_take (i := 5) (oi := ?ood4) (v := ?vvd4) ?hid4 (by kernel_rfl) (by kernel_rfl) (by kernel_rfl) ?hqd4 (Or.inl ⟨?hgd4, ?hyd4⟩) (by assumption) ?restd4
        case hid4 => simp only [List.getElem?_toArray, List.getElem?_cons_zero, List.getElem?_cons_succ]; rfl
        case hqd4 => exact fun _ _ _ h => h
        case hgd4 => rfl
        case hyd4 =>
          intro wq hSw
          go_simp
          (try with_reducible rfl)
        (try simp only [Act.put, List.setIfInBounds_toArray, List.set_cons_zero, List.set_cons_succ])
        refine wpAnyH_take (i := 8) (oi := ?ood5) (v := ?vvd5) ?hid5 (by kernel_rfl) (by kernel_rfl) (by kernel_rfl) ?hqd5 (Or.inl ⟨?hgd5, ?hyd5⟩) (by assumption) ?restd5
        case hid5 => simp only [List.getElem?_toArray, List.getElem?_cons_zero, List.getElem?_cons_succ]; rfl
        case hqd5 => exact fun _ _ _ h => h
        case hgd5 => rfl
        case hyd5 =>
          intro wq hSw
          go_simp
          (try with_reducible rfl)
        (try simp only [Act.put, List.setIfInBounds_toArray, List.set_cons_zero, List.set_cons_succ])
        refine wpAnyH_take (i := 9) (oi := ?ood6) (v := ?vvd6) ?hid6 (by kernel_rfl) (by kernel_rfl) (by kernel_rfl) ?hqd6 (Or.inl ⟨?hgd6, ?hyd6⟩) (by assumption) ?restd6
        case hid6 => simp only [List.getElem?_toArray, List.getElem?_cons_zero, List.getElem?_cons_succ]; rfl
        case hqd6 => exact fun _ _ _ h => h
        case hgd6 => rfl
        case hyd6 =>
          intro wq hSw
          go_simp
          (try with_reducible rfl)
        (try simp only [Act.put, List.setIfInBounds_toArray, List.set_cons_zero, List.set_cons_succ])
        refine wpAnyH_take (i := 10) (oi := ?ood7) (v := ?vvd7) ?hid7 (by kernel_rfl) (by kernel_rfl) (by kernel_rfl) ?hqd7 (Or.inl ⟨?hgd7, ?hyd7⟩) (by assumption) ?restd7
        case hid7 => simp only [List.getElem?_toArray, List.getElem?_cons_zero, List.getElem?_cons_succ]; rfl
        case hqd7 => exact fun _ _ _ h => h
        case hgd7 => rfl
        case hyd7 =>
          intro wq hSw
          go_simp
          (try with_reducible rfl)
        (try simp only [Act.put, List.setIfInBounds_toArray, List.set_cons_zero, List.set_cons_succ])
        refine wpAnyH_ready (rs := [0, 6]) (by kernel_rfl) (by simp) ?_
        refine AllReadyH.cons (i := 0) (o := ?ood8) ?hod8 (fun K hK => ?hstepd8) ?mored8
        case hod8 => simp only [List.getElem?_toArray, List.getElem?_cons_zero, List.getElem?_cons_succ]; rfl
        case hstepd8 =>
          go_simp
          clear hHeld
          refine hK.out _ _ (Below.drew (keep_below_alloc hw _)) (fun hHeld => ?_)
          clear hK K
          (try simp only [Act.put, List.setIfInBounds_toArray, List.set_cons_zero, List.set_cons_succ])
          refine wpAnyH_name hHeld (fun wad8 hHa hwz => ?_)
          have hbA : Below w.heap.size w wad8 := by rw [hwz]; exact Below.drew ((Below.refl w.heap.size w).alloc (Nat.le_refl _) _)
          have hwo := hw.size
          replace h := h.below hbA
          replace hw := keep_below hbA hw
          have hown : wad8.ownsRow w.heap.size 3 1 (.slice (some ⟨w.heap.size, 0, none⟩) 0 0) 0 (i64s []) := by rw [hwz]; exact own_empty w w.heap.size w.heap.size rfl hwo
          clear hHeld hbA hwz
          have hHeld := hHa
          clear hHa
          refine wpAnyH_ready (rs := [4, 6]) (by kernel_rfl) (by simp) ?_
          refine AllReadyH.cons (i := 4) (o := ?ood9) ?hod9 (fun K hK => ?hstepd9) ?mored9
          case hod9 => simp only [List.getElem?_toArray, List.getElem?_cons_zero, List.getElem?_cons_succ]; rfl
          case hstepd9 =>
            clear hHeld
            refine step_append_elder _ (by rfl) _ _ 22 (by rfl) w.heap.size 3 i0 (.int .i64 0) 1 8 Try.underlying22 hi hz0 hz1 hz2 rfl (by decide) _ _ _ (by rfl) hown ⟨g, 0, none⟩ _ _ (i64s (L.take (k))) (by rfl) (by simp [i64s]; omega) (h.part 0 (fun j hj => by first | (simp at hj; done) | simp at hj; rw [nth_get (show j < (L.take (k)).length by simp; omega), nth_get (show 0 + j < L.length by omega)]; exact ⟨by omega, by simp⟩)) (i64s_cells) (by unfold maxLen; omega) (by omega) hw.size ?_
            intro v' wpd9 hown1 hgrow hat hel
            have hrow1 := h.grown hgrow (fun e => by have := (hown.lt g e.symm).1; omega)
            have hw1 := Below.grown hw hgrow hw.size (fun g9 hg9 => (hown.lt g9 hg9).1)
            clear hown hgrow hat hel h hw
            have h := hrow1
            have hown := hown1
            have hw := hw1
            clear hrow1 hown1 hw1
            refine hK.out _ _ (hw) (fun hHeld => ?_)
            clear hK K
            (try simp only [Act.put, List.setIfInBounds_toArray, List.set_cons_zero, List.set_cons_succ])
            refine wpAnyH_ready (rs := [6]) (by kernel_rfl) (by simp) ?_
            refine AllReadyH.cons (i := 6) (o := ?ood10) ?hod10 (fun K hK => ?hstepd10) AllReadyH.nil
            case hod10 => simp only [List.getElem?_toArray, List.getElem?_cons_zero, List.getElem?_cons_succ]; rfl
            go_simp
            clear hHeld
            refine hK.out _ _ (keep_below_alloc hw _) (fun hHeld => ?_)
            clear hK K
            (try simp only [Act.put, List.setIfInBounds_toArray, List.set_cons_zero, List.set_cons_succ])
            refine wpAnyH_name hHeld (fun wad10 hHa hwz => ?_)
            have hbA : Below wpd9.heap.size wpd9 wad10 := by rw [hwz]; exact (Below.refl wpd9.heap.size wpd9).alloc (Nat.le_refl _) _
            have hneN := own_ne_ge (g := wpd9.heap.size) hown (Nat.le_refl _)
            replace h := h.below hbA
            replace hown := own_below hown hbA
            replace hw := keep_below hbA hw
            have hnx : RowX wad10 wpd9.heap.size [v] := by rw [hwz]; exact RowX.new wpd9 [v] rfl
            generalize wpd9.heap.size = gN at hnx hneN ⊢
            clear hHeld hbA hwz
            have hHeld := hHa
            clear hHa
            refine wpAnyH_ready (rs := [7]) (by kernel_rfl) (by simp) ?_
            refine AllReadyH.cons (i := 7) (o := ?ood11) ?hod11 (fun K hK => ?hstepd11) AllReadyH.nil
            case hod11 => simp only [List.getElem?_toArray, List.getElem?_cons_zero, List.getElem?_cons_succ]; rfl
            clear hHeld
            refine step_append_elder _ (by rfl) _ _ 22 (by rfl) w.heap.size 3 i0 (.int .i64 0) 1 8 Try.underlying22 hi hz0 hz1 hz2 rfl (by decide) _ _ _ (by rfl) hown ⟨gN, 0, none⟩ _ _ ([.int .i64 v]) (by rfl) (rfl) (hnx.news) (by simp [Value.oneCell']) (by unfold maxLen; omega) (by omega) hw.size ?_
            intro v' wpd11 hown1 hgrow hat hel
            have hrow1 := h.grown hgrow (fun e => by have := (hown.lt g e.symm).1; omega)
            have hw1 := Below.grown hw hgrow hw.size (fun g9 hg9 => (hown.lt g9 hg9).1)
            clear hnx hneN hown hgrow hat hel h hw
            have h := hrow1
            have hown := hown1
            have hw := hw1
            clear hrow1 hown1 hw1
            refine hK.out _ _ (hw) (fun hHeld => ?_)
            clear hK K
            (try simp only [Act.put, List.setIfInBounds_toArray, List.set_cons_zero, List.set_cons_succ])
            refine wpAnyH_ready (rs := [11]) (by kernel_rfl) (by simp) ?_
            refine AllReadyH.cons (i := 11) (o := ?ood12) ?hod12 (fun K hK => ?hstepd12) AllReadyH.nil
            case hod12 => simp only [List.getElem?_toArray, List.getElem?_cons_zero, List.getElem?_cons_succ]; rfl
            clear hHeld
            refine step_append_elder _ (by rfl) _ _ 22 (by rfl) w.heap.size 3 i0 (.int .i64 0) 1 8 Try.underlying22 hi hz0 hz1 hz2 rfl (by decide) _ _ _ (by rfl) hown ⟨g, k, none⟩ _ _ (i64s (L.drop (k))) (by rfl) (by first | (simp [i64s]; done) | (simp [i64s]; omega)) (h.part (k) (fun j hj => by first | (simp at hj; done) | (simp at hj; omega) | simp at hj; rw [nth_get (show j < (L.drop (k)).length by simp; omega), nth_get (show (k) + j < L.length by omega)]; exact ⟨by omega, by simp⟩)) (i64s_cells) (by unfold maxLen; omega) (by omega) hw.size ?_
            intro v' wpd12 hown1 hgrow hat hel
            have hrow1 := h.grown hgrow (fun e => by have := (hown.lt g e.symm).1; omega)
            have hw1 := Below.grown hw hgrow hw.size (fun g9 hg9 => (hown.lt g9 hg9).1)
            clear hown hgrow hat hel h hw
            have h := hrow1
            have hown := hown1
            have hw := hw1
            clear hrow1 hown1 hw1
            refine hK.out _ _ (hw) (fun hHeld => ?_)
            clear hK K
            (try simp only [Act.put, List.setIfInBounds_toArray, List.set_cons_zero, List.set_cons_succ])
            refine wpAnyH_take (i := 12) (oi := ?ood13) (v := ?vvd13) ?hid13 (by kernel_rfl) (by kernel_rfl) (by kernel_rfl) ?hqd13 (Or.inl ⟨?hgd13, ?hyd13⟩) (by assumption) ?restd13
            case hid13 => simp only [List.getElem?_toArray, List.getElem?_cons_zero, List.getElem?_cons_succ]; rfl
            case hqd13 => exact fun _ _ _ h => h
            case hgd13 => rfl
            case hyd13 =>
              intro wq hSw
              go_simp
              (try with_reducible rfl)
            (try simp only [Act.put, List.setIfInBounds_toArray, List.set_cons_zero, List.set_cons_succ])
            clear hHeld
            refine wpAnyH_done (by kernel_rfl) ?_ _
            go_wp2
            go_ret
            obtain ⟨g', c', rfl, hg', hc', hr'⟩ := own_head (xs := putM L (k) v) (by simpa [putM, i64s] using hown) (by omega)
            exact ⟨putM L (k) v, g', c', rfl, hr', hc', .inr hg', HM.out, put_mem, hw⟩
          refine AllReadyH.cons (i := 6) (o := ?ood14) ?hod14 (fun K hK => ?hstepd14) ?mored14
          case hod14 => simp only [List.getElem?_toArray, List.getElem?_cons_zero, List.getElem?_cons_succ]; rfl
          case hstepd14 =>
            go_simp
            clear hHeld
            refine hK.out _ _ (keep_below_alloc hw _) (fun hHeld => ?_)
            clear hK K
            (try simp only [Act.put, List.setIfInBounds_toArray, List.set_cons_zero, List.set_cons_succ])
            refine wpAnyH_name hHeld (fun wad14 hHa hwz => ?_)
            have hbA : Below wad8.heap.size wad8 wad14 := by rw [hwz]; exact (Below.refl wad8.heap.size wad8).alloc (Nat.le_refl _) _
            have hneN := own_ne_ge (g := wad8.heap.size) hown (Nat.le_refl _)
            replace h := h.below hbA
            replace hown := own_below hown hbA
            replace hw := keep_below hbA hw
            have hnx : RowX wad14 wad8.heap.size [v] := by rw [hwz]; exact RowX.new wad8 [v] rfl
            generalize wad8.heap.size = gN at hnx hneN ⊢
            clear hHeld hbA hwz
            have hHeld := hHa
            clear hHa
            refine wpAnyH_ready (rs := [4]) (by kernel_rfl) (by simp) ?_
            refine AllReadyH.cons (i := 4) (o := ?ood15) ?hod15 (fun K hK => ?hstepd15) AllReadyH.nil
            case hod15 => simp only [List.getElem?_toArray, List.getElem?_cons_zero, List.getElem?_cons_succ]; rfl
            clear hHeld
            refine step_append_elder _ (by rfl) _ _ 22 (by rfl) w.heap.size 3 i0 (.int .i64 0) 1 8 Try.underlying22 hi hz0 hz1 hz2 rfl (by decide) _ _ _ (by rfl) hown ⟨g, 0, none⟩ _ _ (i64s (L.take (k))) (by rfl) (by simp [i64s]; omega) (h.part 0 (fun j hj => by first | (simp at hj; done) | simp at hj; rw [nth_get (show j < (L.take (k)).length by simp; omega), nth_get (show 0 + j < L.length by omega)]; exact ⟨by omega, by simp⟩)) (i64s_cells) (by unfold maxLen; omega) (by omega) hw.size ?_
            intro v' wpd15 hown1 hgrow hat hel
            have hrow1 := h.grown hgrow (fun e => by have := (hown.lt g e.symm).1; omega)
            have hnx1 := hnx.grown hgrow hneN
            have hneN1 : v'.ownBlock ≠ some gN := by
              rcases hat with e | e
              · rw [e]; exact hneN
              · rw [e]; intro h'; injection h' with h'; have := hnx.lt; omega
            clear hnx hneN
            have hnx := hnx1
            have hneN := hneN1
            clear hnx1 hneN1
            have hw1 := Below.grown hw hgrow hw.size (fun g9 hg9 => (hown.lt g9 hg9).1)
            clear hown hgrow hat hel h hw
            have h := hrow1
            have hown := hown1
            have hw := hw1
            clear hrow1 hown1 hw1
            refine hK.out _ _ (hw) (fun hHeld => ?_)
            clear hK K
            (try simp only [Act.put, List.setIfInBounds_toArray, List.set_cons_zero, List.set_cons_succ])
            refine wpAnyH_ready (rs := [7]) (by kernel_rfl) (by simp) ?_
            refine AllReadyH.cons (i := 7) (o := ?ood16) ?hod16 (fun K hK => ?hstepd16) AllReadyH.nil
            case hod16 => simp only [List.getElem?_toArray, List.getElem?_cons_zero, List.getElem?_cons_succ]; rfl
            clear hHeld
            refine step_append_elder _ (by rfl) _ _ 22 (by rfl) w.heap.size 3 i0 (.int .i64 0) 1 8 Try.underlying22 hi hz0 hz1 hz2 rfl (by decide) _ _ _ (by rfl) hown ⟨gN, 0, none⟩ _ _ ([.int .i64 v]) (by rfl) (rfl) (hnx.news) (by simp [Value.oneCell']) (by unfold maxLen; omega) (by omega) hw.size ?_
            intro v' wpd16 hown1 hgrow hat hel
            have hrow1 := h.grown hgrow (fun e => by have := (hown.lt g e.symm).1; omega)
            have hw1 := Below.grown hw hgrow hw.size (fun g9 hg9 => (hown.lt g9 hg9).1)
            clear hnx hneN hown hgrow hat hel h hw
            have h := hrow1
            have hown := hown1
            have hw := hw1
            clear hrow1 hown1 hw1
            refine hK.out _ _ (hw) (fun hHeld => ?_)
            clear hK K
            (try simp only [Act.put, List.setIfInBounds_toArray, List.set_cons_zero, List.set_cons_succ])
            refine wpAnyH_ready (rs := [11]) (by kernel_rfl) (by simp) ?_
            refine AllReadyH.cons (i := 11) (o := ?ood17) ?hod17 (fun K hK => ?hstepd17) AllReadyH.nil
            case hod17 => simp only [List.getElem?_toArray, List.getElem?_cons_zero, List.getElem?_cons_succ]; rfl
            clear hHeld
            refine step_append_elder _ (by rfl) _ _ 22 (by rfl) w.heap.size 3 i0 (.int .i64 0) 1 8 Try.underlying22 hi hz0 hz1 hz2 rfl (by decide) _ _ _ (by rfl) hown ⟨g, k, none⟩ _ _ (i64s (L.drop (k))) (by rfl) (by first | (simp [i64s]; done) | (simp [i64s]; omega)) (h.part (k) (fun j hj => by first | (simp at hj; done) | (simp at hj; omega) | simp at hj; rw [nth_get (show j < (L.drop (k)).length by simp; omega), nth_get (show (k) + j < L.length by omega)]; exact ⟨by omega, by simp⟩)) (i64s_cells) (by unfold maxLen; omega) (by omega) hw.size ?_
            intro v' wpd17 hown1 hgrow hat hel
            have hrow1 := h.grown hgrow (fun e => by have := (hown.lt g e.symm).1; omega)
            have hw1 := Below.grown hw hgrow hw.size (fun g9 hg9 => (hown.lt g9 hg9).1)
            clear hown hgrow hat hel h hw
            have h := hrow1
            have hown := hown1
            have hw := hw1
            clear hrow1 hown1 hw1
            refine hK.out _ _ (hw) (fun hHeld => ?_)
            clear hK K
            (try simp only [Act.put, List.setIfInBounds_toArray, List.set_cons_zero, List.set_cons_succ])
            refine wpAnyH_take (i := 12) (oi := ?ood18) (v := ?vvd18) ?hid18 (by kernel_rfl) (by kernel_rfl) (by kernel_rfl) ?hqd18 (Or.inl ⟨?hgd18, ?hyd18⟩) (by assumption) ?restd18
            case hid18 => simp only [List.getElem?_toArray, List.getElem?_cons_zero, List.getElem?_cons_succ]; rfl
            case hqd18 => exact fun _ _ _ h => h
            case hgd18 => rfl
            case hyd18 =>
              intro wq hSw
              go_simp
              (try with_reducible rfl)
            (try simp only [Act.put, List.setIfInBounds_toArray, List.set_cons_zero, List.set_cons_succ])
            clear hHeld
            refine wpAnyH_done (by kernel_rfl) ?_ _
            go_wp2
            go_ret
            obtain ⟨g', c', rfl, hg', hc', hr'⟩ := own_head (xs := putM L (k) v) (by simpa [putM, i64s] using hown) (by omega)
            exact ⟨putM L (k) v, g', c', rfl, hr', hc', .inr hg', HM.out, put_mem, hw⟩
          exact AllReadyH.nil
        refine AllReadyH.cons (i := 6) (o := ?ood19) ?hod19 (fun K hK => ?hstepd19) ?mored19
        case hod19 => simp only [List.getElem?_toArray, List.getElem?_cons_zero, List.getElem?_cons_succ]; rfl
        case hstepd19 =>
          go_simp
          clear hHeld
          refine hK.out _ _ (Below.drew (keep_below_alloc hw _)) (fun hHeld => ?_)
          clear hK K
          (try simp only [Act.put, List.setIfInBounds_toArray, List.set_cons_zero, List.set_cons_succ])
          refine wpAnyH_name hHeld (fun wad19 hHa hwz => ?_)
          have hbA : Below w.heap.size w wad19 := by rw [hwz]; exact Below.drew ((Below.refl w.heap.size w).alloc (Nat.le_refl _) _)
          replace h := h.below hbA
          replace hw := keep_below hbA hw
          have hnx : RowX wad19 w.heap.size [v] := by rw [hwz]; exact RowX.new w [v] rfl
          clear hHeld hbA hwz
          have hHeld := hHa
          clear hHa
          refine wpAnyH_ready (rs := [0]) (by kernel_rfl) (by simp) ?_
          refine AllReadyH.cons (i := 0) (o := ?ood20) ?hod20 (fun K hK => ?hstepd20) AllReadyH.nil
          case hod20 => simp only [List.getElem?_toArray, List.getElem?_cons_zero, List.getElem?_cons_succ]; rfl
          go_simp
          clear hHeld
          refine hK.out _ _ (keep_below_alloc hw _) (fun hHeld => ?_)
          clear hK K
          (try simp only [Act.put, List.setIfInBounds_toArray, List.set_cons_zero, List.set_cons_succ])
          refine wpAnyH_name hHeld (fun wad20 hHa hwz => ?_)
          have hbA : Below wad19.heap.size wad19 wad20 := by rw [hwz]; exact (Below.refl wad19.heap.size wad19).alloc (Nat.le_refl _) _
          have hwo := hw.size
          have hgN := hnx.lt
          replace h := h.below hbA
          replace hnx := hnx.below hbA
          replace hw := keep_below hbA hw
          have hown : wad20.ownsRow w.heap.size 3 1 (.slice (some ⟨wad19.heap.size, 0, none⟩) 0 0) 0 (i64s []) := by rw [hwz]; exact own_empty wad19 w.heap.size wad19.heap.size rfl hwo
          have hneN : (Value.slice (some ⟨wad19.heap.size, 0, none⟩) 0 0).ownBlock ≠ some w.heap.size := by intro h'; injection h' with h'; have h9 : wad19.heap.size = w.heap.size := h'; omega
          clear hHeld hbA hwz
          have hHeld := hHa
          clear hHa
          refine wpAnyH_ready (rs := [4]) (by kernel_rfl) (by simp) ?_
          refine AllReadyH.cons (i := 4) (o := ?ood21) ?hod21 (fun K hK => ?hstepd21) AllReadyH.nil
          case hod21 => simp only [List.getElem?_toArray, List.getElem?_cons_zero, List.getElem?_cons_succ]; rfl
          clear hHeld
          refine step_append_elder _ (by rfl) _ _ 22 (by rfl) w.heap.size 3 i0 (.int .i64 0) 1 8 Try.underlying22 hi hz0 hz1 hz2 rfl (by decide) _ _ _ (by rfl) hown ⟨g, 0, none⟩ _ _ (i64s (L.take (k))) (by rfl) (by simp [i64s]; omega) (h.part 0 (fun j hj => by first | (simp at hj; done) | simp at hj; rw [nth_get (show j < (L.take (k)).length by simp; omega), nth_get (show 0 + j < L.length by omega)]; exact ⟨by omega, by simp⟩)) (i64s_cells) (by unfold maxLen; omega) (by omega) hw.size ?_
          intro v' wpd21 hown1 hgrow hat hel
          have hrow1 := h.grown hgrow (fun e => by have := (hown.lt g e.symm).1; omega)
          have hnx1 := hnx.grown hgrow hneN
          have hneN1 : v'.ownBlock ≠ some w.heap.size := by
            rcases hat with e | e
            · rw [e]; exact hneN
            · rw [e]; intro h'; injection h' with h'; have := hnx.lt; omega
          clear hnx hneN
          have hnx := hnx1
          have hneN := hneN1
          clear hnx1 hneN1
          have hw1 := Below.grown hw hgrow hw.size (fun g9 hg9 => (hown.lt g9 hg9).1)
          clear hown hgrow hat hel h hw
          have h := hrow1
          have hown := hown1
          have hw := hw1
          clear hrow1 hown1 hw1
          refine hK.out _ _ (hw) (fun hHeld => ?_)
          clear hK K
          (try simp only [Act.put, List.setIfInBounds_toArray, List.set_cons_zero, List.set_cons_succ])
          refine wpAnyH_ready (rs := [7]) (by kernel_rfl) (by simp) ?_
          refine AllReadyH.cons (i := 7) (o := ?ood22) ?hod22 (fun K hK => ?hstepd22) AllReadyH.nil
          case hod22 => simp only [List.getElem?_toArray, List.getElem?_cons_zero, List.getElem?_cons_succ]; rfl
          clear hHeld
          refine step_append_elder _ (by rfl) _ _ 22 (by rfl) w.heap.size 3 i0 (.int .i64 0) 1 8 Try.underlying22 hi hz0 hz1 hz2 rfl (by decide) _ _ _ (by rfl) hown ⟨w.heap.size, 0, none⟩ _ _ ([.int .i64 v]) (by rfl) (rfl) (hnx.news) (by simp [Value.oneCell']) (by unfold maxLen; omega) (by omega) hw.size ?_
          intro v' wpd22 hown1 hgrow hat hel
          have hrow1 := h.grown hgrow (fun e => by have := (hown.lt g e.symm).1; omega)
          have hw1 := Below.grown hw hgrow hw.size (fun g9 hg9 => (hown.lt g9 hg9).1)
          clear hnx hneN hown hgrow hat hel h hw
          have h := hrow1
          have hown := hown1
          have hw := hw1
          clear hrow1 hown1 hw1
          refine hK.out _ _ (hw) (fun hHeld => ?_)
          clear hK K
          (try simp only [Act.put, List.setIfInBounds_toArray, List.set_cons_zero, List.set_cons_succ])
          refine wpAnyH_ready (rs := [11]) (by kernel_rfl) (by simp) ?_
          refine AllReadyH.cons (i := 11) (o := ?ood23) ?hod23 (fun K hK => ?hstepd23) AllReadyH.nil
          case hod23 => simp only [List.getElem?_toArray, List.getElem?_cons_zero, List.getElem?_cons_succ]; rfl
          clear hHeld
          refine step_append_elder _ (by rfl) _ _ 22 (by rfl) w.heap.size 3 i0 (.int .i64 0) 1 8 Try.underlying22 hi hz0 hz1 hz2 rfl (by decide) _ _ _ (by rfl) hown ⟨g, k, none⟩ _ _ (i64s (L.drop (k))) (by rfl) (by first | (simp [i64s]; done) | (simp [i64s]; omega)) (h.part (k) (fun j hj => by first | (simp at hj; done) | (simp at hj; omega) | simp at hj; rw [nth_get (show j < (L.drop (k)).length by simp; omega), nth_get (show (k) + j < L.length by omega)]; exact ⟨by omega, by simp⟩)) (i64s_cells) (by unfold maxLen; omega) (by omega) hw.size ?_
          intro v' wpd23 hown1 hgrow hat hel
          have hrow1 := h.grown hgrow (fun e => by have := (hown.lt g e.symm).1; omega)
          have hw1 := Below.grown hw hgrow hw.size (fun g9 hg9 => (hown.lt g9 hg9).1)
          clear hown hgrow hat hel h hw
          have h := hrow1
          have hown := hown1
          have hw := hw1
          clear hrow1 hown1 hw1
          refine hK.out _ _ (hw) (fun hHeld => ?_)
          clear hK K
          (try simp only [Act.put, List.setIfInBounds_toArray, List.set_cons_zero, List.set_cons_succ])
          refine wpAnyH_take (i := 12) (oi := ?ood24) (v := ?vvd24) ?hid24 (by kernel_rfl) (by kernel_rfl) (by kernel_rfl) ?hqd24 (Or.inl ⟨?hgd24, ?hyd24⟩) (by assumption) ?restd24
          case hid24 => simp only [List.getElem?_toArray, List.getElem?_cons_zero, List.getElem?_cons_succ]; rfl
          case hqd24 => exact fun _ _ _ h => h
          case hgd24 => rfl
          case hyd24 =>
            intro wq hSw
            go_simp
            (try with_reducible rfl)
          (try simp only [Act.put, List.setIfInBounds_toArray, List.set_cons_zero, List.set_cons_succ])
          clear hHeld
          refine wpAnyH_done (by kernel_rfl) ?_ _
          go_wp2
          go_ret
          obtain ⟨g', c', rfl, hg', hc', hr'⟩ := own_head (xs := putM L (k) v) (by simpa [putM, i64s] using hown) (by omega)
          exact ⟨putM L (k) v, g', c', rfl, hr', hc', .inr hg', HM.out, put_mem, hw⟩
        exact AllReadyH.nil
end Go.Proofs.Ytombfbmcplefgaa
