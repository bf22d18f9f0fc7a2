/- Contracts: nodes, children, processes. -/
import Derived.Test.YtombfbmcplefgaaTree8
namespace Go.Proofs.Ytombfbmcplefgaa
open Go.ChangeShapes Go.WideShapes Go.ChangeAt Go.RowKit

/-- Contracts of IsTree with the answer given. -/
theorem isTree_r {xs ys : List Int} {r : Bool} (hr : good xs ys = r) (A B : Option Addr) (c e : Nat) (w : World) (h : IntS w A xs) (k : IntS w B ys) (hx : Bd xs) (hy : Bd ys) (hn : xs.length ≤ 1048576) (hm : ys.length ≤ 1048576) :
    Calls Try.prog 81 #[.agg #[.slice A xs.length c, .slice B ys.length e]] w fun e' w' => e' = .returned (.bool r) ∧ Below w.heap.size w w' := by
  rw [← hr]; exact isTree_any A B c e xs ys w h k hx hy hn hm
theorem l2Good_r {xs ys : List Int} {r : Bool} (hr : good xs ys = r) (A B : Option Addr) (c e : Nat) (w : World) (h : IntS w A xs) (k : IntS w B ys) (hx : Bd xs) (hy : Bd ys) (hn : xs.length ≤ 1048576) (hm : ys.length ≤ 1048576) :
    Calls Try.prog 84 #[.agg #[.slice A xs.length c, .slice B ys.length e]] w fun e' w' => e' = .returned (.bool r) ∧ Below w.heap.size w w' := by
  rw [← hr]; exact l2Good_any A B c e xs ys w h k hx hy hn hm

/-- All of a list lie between two numbers. -/
def allIn (zs : List Int) (lo hi : Int) : Bool := (List.range zs.length).all fun j => decide (lo ≤ nth zs j ∧ nth zs j ≤ hi)
theorem allIn_no {zs : List Int} {lo hi : Int} {j : Nat} (hj : j < zs.length) (h : ¬ (lo ≤ nth zs j ∧ nth zs j ≤ hi)) : allIn zs lo hi = false := by
  rw [Bool.eq_false_iff]
  intro ha
  have := List.all_eq_true.1 ha j (List.mem_range.2 hj)
  exact h (of_decide_eq_true this)
theorem allIn_yes {zs : List Int} {lo hi : Int} (h : ∀ j, j < zs.length → lo ≤ nth zs j ∧ nth zs j ≤ hi) : allIn zs lo hi = true :=
  List.all_eq_true.2 fun j hj => decide_eq_true (h j (List.mem_range.1 hj))
theorem allIn_iff {zs : List Int} {lo hi : Int} : allIn zs lo hi = true ↔ ∀ j, j < zs.length → lo ≤ nth zs j ∧ nth zs j ≤ hi :=
  ⟨fun h j hj => of_decide_eq_true (List.all_eq_true.1 h j (List.mem_range.2 hj)), allIn_yes⟩

set_option maxHeartbeats 400000 in
theorem allWithin_any (A : Option Addr) (c : Nat) (zs : List Int) (lo hi : Int) (w : World) (h : IntS w A zs) (hn : zs.length ≤ maxLen) :
    Calls Try.prog 137 #[.slice A zs.length c, .int .i64 lo, .int .i64 hi] w fun e w' => e = .returned (.bool (allIn zs lo hi)) ∧ w = w' := by
  unfold maxLen at hn
  generalize hg : allIn zs lo hi = r
  have HG := Lib.hid hg
  clear hg
  go_enter Try.func137, Try.ntmps137
  go_wp2
  go_loop [8, 11] (fun _ i => ∃ k : Nat, k ≤ zs.length ∧ i = .int .i64 k ∧ Hid (∀ j, j < k → lo ≤ nth zs j ∧ nth zs j ≤ hi)) (fun _ i => zs.length - (intOf i).toNat)
  case atStart => exact ⟨0, Nat.zero_le _, rfl, fun j hj => by omega⟩
  case round =>
    obtain ⟨k, hk, rfl, HA⟩ := hrel
    by_cases hlt : k < zs.length
    · obtain ⟨b, o, rfl, hc⟩ := h.at_ (j := k) hlt
      by_cases hz : lo ≤ nth zs k ∧ nth zs k ≤ hi
      · have HA' : Hid (∀ j, j < k + 1 → lo ≤ nth zs j ∧ nth zs j ≤ hi) := fun j hj => by
          by_cases e : j = k
          · subst e; exact hz
          · exact HA.out j (by omega)
        go_wp2_with (go_at_call 114; refine (within_yes _ _ _ _ hz.1 hz.2).mono ?_; rintro e w' ⟨rfl, rfl⟩)
        go_round
        case rel => exact ⟨k + 1, by omega, by go_num, HA'⟩
        case measure => simp [intOf]; omega
      · have hr : r = false := by rw [← HG.out]; exact allIn_no hlt hz
        subst hr
        go_wp2_with (go_at_call 114; refine (within_no _ _ _ _ hz).mono ?_; rintro e w' ⟨rfl, rfl⟩)
        go_ret
        exact ⟨rfl, rfl⟩
    · have hr : r = true := by rw [← HG.out]; exact allIn_yes fun j hj => HA.out j (by omega)
      subst hr
      go_wp2
      go_ret
      exact ⟨rfl, rfl⟩

/-- A process of a tree with n nodes. -/
def isProc (n : Nat) (zs : List Int) : Bool := decide (zs.length = n) && allIn zs (-999) 999
theorem isProcess_any (A B P : Option Addr) (c m e cz n : Nat) (zs : List Int) (w : World) (z : IntS w P zs) (hz : zs.length ≤ 1048576) (hn : n ≤ 1048576) :
    Calls Try.prog 82 #[.agg #[.slice A n c, .slice B m e], .slice P zs.length cz] w fun e1 w' => e1 = .returned (.bool (isProc n zs)) ∧ Below w.heap.size w w' := by
  by_cases hl : zs.length = n
  · have hv : isProc n zs = allIn zs (-999) 999 := by unfold isProc; rw [decide_eq_true hl]; rfl
    rw [hv]
    subst hl
    have HW := Lib.hid (fun W (z : IntS W P zs) => allWithin_any P cz zs (-999) 999 W z (by unfold maxLen; omega))
    generalize allIn zs (-999) 999 = r at *
    clear hv
    go_enter Try.func82, Try.ntmps82
    go_wp2_with fail
    refine (HW.out _ (z.alloc _)).mono ?_
    rintro e1 w1 ⟨rfl, rfl⟩
    go_wp2
    go_ret
    exact ⟨rfl, by (repeat (first | with_reducible exact Below.refl _ _ | with_reducible assumption | with_reducible refine Below.alloc' ?_ ?_ _ | with_reducible refine Below.setCell' ?_ ?_ _ | with_reducible refine Below.drewN' ?_ _ | with_reducible refine Below.drew ?_ | with_reducible refine Below.transA ?_ (by assumption) ?_ | omega | (focus (simp; done)) | (focus (simp; omega))))⟩
  · have hv : isProc n zs = false := by unfold isProc; rw [decide_eq_false hl]; rfl
    have hd : ((zs.length : Int) == (n : Int)) = false := by simp; omega
    rw [hv]
    clear hv hl z
    go_enter Try.func82, Try.ntmps82
    go_wp2
    go_ret
    exact ⟨rfl, by (repeat (first | with_reducible exact Below.refl _ _ | with_reducible assumption | with_reducible refine Below.alloc' ?_ ?_ _ | with_reducible refine Below.setCell' ?_ ?_ _ | with_reducible refine Below.drewN' ?_ _ | with_reducible refine Below.drew ?_ | with_reducible refine Below.transA ?_ (by assumption) ?_ | omega | (focus (simp; done)) | (focus (simp; omega))))⟩

set_option maxHeartbeats 1000000 in
theorem l3Good_any (A B P : Option Addr) (c e cz : Nat) (xs ys zs : List Int) (w : World) (h : IntS w A xs) (k : IntS w B ys) (z : IntS w P zs) (hx : Bd xs) (hy : Bd ys) (hn : xs.length ≤ 1048576) (hm : ys.length ≤ 1048576) (hz : zs.length ≤ 1048576) :
    Calls Try.prog 77 #[.agg #[.slice A xs.length c, .slice B ys.length e], .slice P zs.length cz] w fun e1 w' => e1 = .returned (.bool (good xs ys && isProc xs.length zs)) ∧ Below w.heap.size w w' := by
  have HL := Lib.hid (fun W (h : IntS W A xs) (k : IntS W B ys) => l2Good_any A B c e xs ys W h k hx hy hn hm)
  clear hx hy
  obtain ⟨g, hg⟩ : ∃ g, good xs ys = g := ⟨_, rfl⟩
  rw [hg] at HL ⊢
  clear hg
  generalize hr : (g && isProc xs.length zs) = r
  have HR := Lib.hid hr
  clear hr
  obtain ⟨n, hnn⟩ : ∃ n, n = xs.length := ⟨_, rfl⟩
  rw [← hnn] at hn HR HL ⊢
  have HNN := Lib.hid hnn
  clear hnn
  go_enter Try.func77, Try.ntmps77
  go_wp2
  go_loop [5] (fun i => ∃ k : Nat, k ≤ zs.length ∧ i = .int .i64 k ∧ Hid (∀ j, j < k → -999 ≤ nth zs j ∧ nth zs j ≤ 999)) (fun i => zs.length - (intOf i).toNat)
  case atStart => exact ⟨0, Nat.zero_le _, rfl, fun j hj => by omega⟩
  case round =>
    obtain ⟨j, hj, rfl, HA⟩ := hrel
    by_cases hlt : j < zs.length
    · obtain ⟨b, o, rfl, hc⟩ := z.at_ (j := j) hlt
      have hb : b < w.heap.size := World.block_lt_of_cell? w _ hc
      by_cases hzj : -999 ≤ nth zs j ∧ nth zs j ≤ 999
      · have HA' : Hid (∀ q, q < j + 1 → -999 ≤ nth zs q ∧ nth zs q ≤ 999) := fun q hq => by
          by_cases e : q = j
          · subst e; exact hzj
          · exact HA.out q (by omega)
        go_wp2_with (go_at_call 115; refine (l1In_yes _ _ _ _ hzj.1 hzj.2).mono ?_; rintro e w' ⟨rfl, rfl⟩)
        go_round
        case rel => exact ⟨j + 1, by omega, by go_num, HA'⟩
        case measure => simp [intOf]; omega
      · have hr : r = false := by rw [← HR.out]; unfold isProc; rw [allIn_no hlt hzj]; simp
        subst hr
        go_wp2_with (go_at_call 115; refine (l1In_no _ _ _ _ hzj).mono ?_; rintro e w' ⟨rfl, rfl⟩)
        go_ret
        exact ⟨rfl, by (repeat (first | with_reducible exact Below.refl _ _ | with_reducible assumption | with_reducible refine Below.alloc' ?_ ?_ _ | with_reducible refine Below.setCell' ?_ ?_ _ | with_reducible refine Below.drewN' ?_ _ | with_reducible refine Below.drew ?_ | with_reducible refine Below.transA ?_ (by assumption) ?_ | omega | (focus (simp; done)) | (focus (simp; omega))))⟩
    · have hall : allIn zs (-999) 999 = true := allIn_yes fun q hq => HA.out q (by omega)
      have HR' : Hid ((g && decide (zs.length = n)) = r) := by
        have := HR.out; unfold isProc at this; rw [hall] at this; show _ = _; simpa using this
      clear HR HA hall
      go_wp2_with fail
      refine (HL.out _ (h.alloc _) (k.alloc _)).mono ?_
      rintro e1 w1 ⟨rfl, hb1⟩
      (obtain ⟨hc1, hf1, hz1⟩ := bcell hb1; have hy1 := hb1.size; (try simp at hz1); (try simp at hy1); (try simp at hc1); (try simp at hf1))
      cases g
      · have hr : r = false := by rw [← HR'.out]; rfl
        subst hr
        go_wp2
        go_ret
        exact ⟨rfl, by (repeat (first | with_reducible exact Below.refl _ _ | with_reducible assumption | with_reducible refine Below.alloc' ?_ ?_ _ | with_reducible refine Below.setCell' ?_ ?_ _ | with_reducible refine Below.drewN' ?_ _ | with_reducible refine Below.drew ?_ | with_reducible refine Below.transA ?_ (by assumption) ?_ | omega | (focus (simp; done)) | (focus (simp; omega))))⟩
      · by_cases hl : zs.length = n
        · have hr : r = true := by rw [← HR'.out]; simp [hl]
          subst hr
          have hd : ((zs.length : Int) == (n : Int)) = true := by simp; omega
          clear hl
          go_wp2
          go_ret
          exact ⟨rfl, by (repeat (first | with_reducible exact Below.refl _ _ | with_reducible assumption | with_reducible refine Below.alloc' ?_ ?_ _ | with_reducible refine Below.setCell' ?_ ?_ _ | with_reducible refine Below.drewN' ?_ _ | with_reducible refine Below.drew ?_ | with_reducible refine Below.transA ?_ (by assumption) ?_ | omega | (focus (simp; done)) | (focus (simp; omega))))⟩
        · have hr : r = false := by rw [← HR'.out]; simp [hl]
          subst hr
          have hd : ((zs.length : Int) == (n : Int)) = false := by simp; omega
          clear hl
          go_wp2
          go_ret
          exact ⟨rfl, by (repeat (first | with_reducible exact Below.refl _ _ | with_reducible assumption | with_reducible refine Below.alloc' ?_ ?_ _ | with_reducible refine Below.setCell' ?_ ?_ _ | with_reducible refine Below.drewN' ?_ _ | with_reducible refine Below.drew ?_ | with_reducible refine Below.transA ?_ (by assumption) ?_ | omega | (focus (simp; done)) | (focus (simp; omega))))⟩
end Go.Proofs.Ytombfbmcplefgaa
