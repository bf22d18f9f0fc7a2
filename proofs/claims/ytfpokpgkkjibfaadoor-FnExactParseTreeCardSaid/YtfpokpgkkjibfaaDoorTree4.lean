/- Contracts: the ends of a tree (the program's isEnd). -/
import Derived.Test.YtfpokpgkkjibfaaDoorTree3
namespace Go.Proofs.YtfpokpgkkjibfaaDoor
open Go.ChangeShapes Go.WideShapes Go.ChangeAt Go.RowKit

/-- n bools, by a function. -/
def bArr (n : Nat) (f : Nat → Bool) : Array Value := ((List.range n).map fun i => Value.bool (f i)).toArray
theorem bArr_size (n : Nat) (f : Nat → Bool) : (bArr n f).size = n := by simp [bArr]
theorem bArr_at (n : Nat) (f : Nat → Bool) {i : Nat} (h : i < n) : (bArr n f)[i]? = some (.bool (f i)) := by simp [bArr, h]
theorem bArr_set (n : Nat) (f : Nat → Bool) (k : Nat) (b : Bool) : (bArr n f).setIfInBounds k (.bool b) = bArr n (fun i => if i = k then b else f i) := by
  apply Array.ext
  · simp [bArr]
  · intro i h1 h2
    rw [Array.getElem_setIfInBounds (by simpa [bArr] using h1)]
    simp only [bArr, List.getElem_toArray, List.getElem_map, List.getElem_range]
    by_cases e : k = i
    · subst e; simp
    · rw [if_neg e, if_neg (fun h => e h.symm)]
theorem bArr_congr (n : Nat) {f g : Nat → Bool} (h : ∀ i, i < n → f i = g i) : bArr n f = bArr n g := by
  unfold bArr
  congr 1
  exact List.map_congr_left fun i hi => by rw [h i (List.mem_range.1 hi)]
theorem info_bool : (Tryd.prog.info? 4).map (fun i => (i.zero, i.size, i.bytes)) = some (some (.bool false), 1, 1) := by kernel_rfl
theorem madeB (n : Nat) : madeCells #[.bool false] n = bArr n (fun _ => false) := by
  apply Array.ext
  · simp [madeCells, bArr]
  · intro i h1 h2
    have h0 : i % 1 = 0 := Nat.mod_one i
    simp [madeCells, bArr, h0]
theorem run_makeB (n : Nat) (hn : n ≤ 1048576) (w : World) :
    (Instr.makeSlice 89 (.int .i64 (n : Int)) (.int .i64 (n : Int))).run Tryd.prog w = .ok (.slice (some ⟨w.heap.size, 0, none⟩) n n) (w.alloc (.cells (bArr n (fun _ => false)) 4)) := by
  obtain ⟨i0, hi, hz0, hz1, hz2⟩ := info_parts info_bool
  have h := run_make (P := Tryd.prog) w 89 4 i0 (.bool false) Tryd.underlying89 hi hz0 .i64 .i64 (n : Int) (n : Int) (by omega) (Int.le_refl _) (by rw [hz2]; omega) (by omega)
  rw [h, hz1, ← madeB]
  simp [Value.cells]

/-- None of the first k parents is x. -/
def noKid (xs : List Int) (k : Nat) (x : Nat) : Bool := (List.range k).all fun y => nth xs y != (x : Int)
theorem noKid_succ (xs : List Int) (k x : Nat) : noKid xs (k + 1) x = (noKid xs k x && nth xs k != (x : Int)) := by
  unfold noKid; rw [List.range_succ, List.all_append]; simp

set_option maxHeartbeats 1000000 in
set_option maxRecDepth 100000 in
theorem isEnd_exact (A B : Option Addr) (c m e : Nat) (xs : List Int) (w : World) (h : IntS w A xs) (hn : xs.length ≤ 1000) (hp : Hid (∀ y, y < xs.length → nth xs y < xs.length)) :
    Calls Tryd.prog 84 #[.agg #[.slice A xs.length c, .slice B m e]] w fun e' w' => e' = .returned (.slice (some ⟨w.heap.size + 1, 0, none⟩) xs.length xs.length) ∧ w' = (w.alloc (.cells #[.slice A xs.length c, .slice B m e] 34)).alloc (.cells (bArr xs.length (noKid xs xs.length)) 4) := by
  obtain ⟨n, hn'⟩ : ∃ n, n = xs.length := ⟨_, rfl⟩
  have HN : Hid (n = xs.length) := hn'
  rw [← hn'] at hn hp ⊢
  clear hn'
  have hmk := run_makeB n (by omega)
  go_enter Tryd.func84, Tryd.ntmps84
  go_wp2
  go_loopw [4, 13] (fun _ i wr => ∃ k : Nat, k ≤ n ∧ i = .int .i64 k ∧ wr = (w.alloc (.cells #[.slice A n c, .slice B m e] 34)).alloc (.cells (bArr n (fun i => decide (i < k))) 4)) (fun _ i _ => n - (intOf i).toNat)
  case atStart => exact ⟨0, Nat.zero_le _, rfl, by simp⟩
  case round =>
    obtain ⟨k, hk, rfl, rfl⟩ := hrel
    by_cases hlt : k < n
    · have hat := bArr_at n (fun i => decide (i < k)) hlt
      have hst := bArr_set n (fun i => decide (i < k)) k true
      have hcg : bArr n (fun i => if i = k then true else decide (i < k)) = bArr n (fun i => decide (i < k + 1)) := bArr_congr n fun i _ => by
        by_cases e : i = k
        · simp [e]
        · simp [e]; omega
      rw [hcg] at hst
      clear hcg
      go_wp2
      go_roundw
      case rel => exact ⟨k + 1, by omega, by go_num, rfl⟩
      case measure => simp [intOf]; omega
    · have hkn : k = n := by omega
      subst hkn
      have hcg : bArr k (fun i => decide (i < k)) = bArr k (noKid xs 0) := bArr_congr k fun i hi => by simp [noKid, hi]
      rw [hcg]
      clear hcg hlt hk hmk
      go_wp2
      go_loopw [6, 23] (fun _ i wr => ∃ j : Nat, j ≤ k ∧ i = .int .i64 j ∧ wr = (w.alloc (.cells #[.slice A k c, .slice B m e] 34)).alloc (.cells (bArr k (noKid xs j)) 4)) (fun _ i _ => k - (intOf i).toNat)
      case atStart => exact ⟨0, Nat.zero_le _, rfl, rfl⟩
      case round =>
        obtain ⟨j, hj, rfl, rfl⟩ := hrel
        by_cases hlt : j < k
        · obtain ⟨b, o, rfl, hc⟩ := h.at_ (j := j) (by rw [← HN.out]; exact hlt)
          have hb : b < w.heap.size := World.block_lt_of_cell? w _ hc
          have hpj := hp.out j hlt
          by_cases hneg : nth xs j < 0
          · have hcg : bArr k (noKid xs j) = bArr k (noKid xs (j + 1)) := bArr_congr k fun i _ => by
              rw [noKid_succ]; simp; intro _; omega
            have HC := Lib.hid hcg
            clear hcg
            go_wp2
            go_roundw
            case rel => exact ⟨j + 1, by omega, by go_num, by rw [HC.out]⟩
            case measure => simp [intOf]; omega
          · obtain ⟨p, hpe⟩ := Int.eq_ofNat_of_zero_le (a := nth xs j) (by omega)
            have hat := bArr_at k (noKid xs j) (i := p) (by omega)
            have hst := bArr_set k (noKid xs j) p false
            have hcg : bArr k (fun i => if i = p then false else noKid xs j i) = bArr k (noKid xs (j + 1)) := bArr_congr k fun i _ => by
              rw [noKid_succ, hpe]
              by_cases e : i = p
              · simp [e]
              · simp [e]; intro _; omega
            rw [hcg] at hst
            rw [hpe] at hc hneg hpj
            clear hcg hpe
            go_wp2
            go_roundw
            case rel => exact ⟨j + 1, by omega, by go_num, rfl⟩
            case measure => simp [intOf]; omega
        · have hjk : j = k := by omega
          have hcg : Hid (bArr k (noKid xs j) = bArr k (noKid xs k)) := by show _ = _; rw [hjk]
          clear hjk
          go_wp2
          go_ret
          exact ⟨rfl, by rw [hcg.out]⟩
end Go.Proofs.YtfpokpgkkjibfaaDoor
