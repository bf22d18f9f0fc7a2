/- Lemmas that every law of this seat uses: how a law's row is closed from a walk that ends in 'Below', and how integer lists are read from memory. -/
import Derived.WalkKit
import Derived.ProofKit
import Derived.OpenShut
import Derived.ShutString
import Derived.ChangeSame
import Derived.Lib.SmallJoins
import Derived.Lib.Hide
import Derived.LoopTactic
import Derived.Deep.QuietTactic
import Derived.BigQuiet
import Derived.Outline
import Derived.Test.YtgccidkkfalaeaaGreatDoorRows
namespace Go.Proofs.YtgccidkkfalaeaaGreatDoor
open Go.ChangeShapes Go.WideShapes Go.ChangeAt Go.RowKit
open Go.ChangeMaps (open_string shut_string)

theorem own_ : ownKnob Tryz.prog.godebug = none := by kernel_rfl
theorem laidOut_ : laidOutB Tryz.prog = true := by kernel_rfl

set_option maxRecDepth 100000
section
variable {H : Type} {enc : TypeId × Value → H} {P : Program}
theorem TrodAll_stays (hl : laidOutB P = true) {W W' : World} {sp : Nat → Bool} : ∀ (ts : List TypeId) (vs : List Value) (ds : List (DataW H)) (ps : List MemPlace),
    ts.all (fun t => P.readableRec t && decide (t < P.types.size)) = true → DataW.TrodAll enc P W 0 (fun _ => true) true ts vs ds ps →
    (∀ p ∈ ps, W.sameAt W' p) → (∀ p ∈ ps, sp p.block = true) → DataW.TrodAll enc P W' 0 sp true ts vs ds ps
  | [], vs, ds, ps, _, h, _, _ => by
    obtain ⟨rfl, rfl, rfl⟩ := trodAll_nil h
    exact trodAll_mk0
  | t :: ts, vs, ds, ps, ha, h, hs, hsp => by
    obtain ⟨v, vs', d, ds', p, q, rfl, rfl, rfl, h0, h1⟩ := trodAll_cons h
    simp only [List.all_cons, Bool.and_eq_true, decide_eq_true_eq] at ha
    exact trodAll_cons_mk (WideElems.Trod_stays hl ha.1.1 ha.1.2 h0 (fun x hx => hs x (by simp [hx])) (fun x hx => hsp x (by simp [hx])))
      (TrodAll_stays hl ts vs' ds' q (by simpa using ha.2) h1 (fun x hx => hs x (by simp [hx])) (fun x hx => hsp x (by simp [hx])))

/-- A law's end: it returned true, and all that was there before is as it was. -/
theorem law_done {fn : Func} {s : ChangeSpec} {W W' : World} {args : Array Value} {ds : List (DataW H)} {before : List MemPlace} {tb : TypeId} {e : Ending}
    (hl : laidOutB P = true) (hrt : fn.resultTypes = #[tb]) (htb : P.underlying tb = some .bool)
    (hall : fn.params.toList.all (fun t => P.readableRec t && decide (t < P.types.size)) = true)
    (hspec : (s.fn H (ds ++ [])).results = [.lit (.bool true)]) (hargs : (s.fn H (ds ++ [])).args = ds) (hv : s.vars = []) (hvs : (s.fn H (ds ++ [])).vars = [])
    (hA : DataW.TrodAll enc P W 0 (fun _ => true) true fn.params.toList args.toList ds before)
    (hW : DataW.Whole enc P fn.params.toList s.vars false W args.toList ds [] before) (he : e = .returned (.bool true)) (hb : Below W.heap.size W W') :
    ∃ v, e = .returned v ∧ s.post enc P fn false true false false W args v W' := by
  have hlt : ∀ p ∈ before, p.block < W.heap.size := fun p hp => hW.lt p hp
  have hold : ∀ p ∈ before, (fun b => decide (b < W.heap.size)) p.block = true := fun p hp => by simpa using hlt p hp
  have hres : ∀ (b : Nat) (sp : Nat → Bool) (hd : Bool), DataW.TrodAll enc P W' b sp hd fn.resultTypes.toList ((Value.bool true).resultList fn.resultTypes.size) (s.fn H (ds ++ [])).results [] := by
    intro b sp hd
    rw [hrt, hspec]
    exact trodAll_cons_mk (shut_bool htb true) trodAll_mk0
  have harg : ∀ sp : Nat → Bool, (∀ p ∈ before, sp p.block = true) → DataW.TrodAll enc P W' 0 sp true fn.params.toList args.toList (s.fn H (ds ++ [])).args before := by
    intro sp hsp
    rw [hargs]
    exact TrodAll_stays hl _ _ _ _ hall hA (fun x hx => hb.same (hlt x hx)) hsp
  have hvars : ∀ sp : Nat → Bool, (∀ p ∈ before, sp p.block = true) → DataW.TrodVars enc P W' sp s.vars (s.fn H (ds ++ [])).vars [] := by
    intro sp _
    rw [hv, hvs]
    rfl
  have hok : ∀ (j : Nat) (t : TypeId) (r : Value), fn.resultTypes[j]? = some t → ((Value.bool true).resultList fn.resultTypes.size)[j]? = some r → Value.okWide P W' .any 0 t r := by
    exact ok_one hrt rfl (okWide_bool_mk htb true)
  refine ⟨_, he, ds, [], before, [], before, [], hW, hres _ _ _, harg _ hold, hvars _ hold, World.keptBut_mono (fun p hp => ⟨hp, ?_⟩) (hb.frame (· ∈ before)), fun _ => ?_⟩
  · simpa using hp
  · obtain ⟨_, _, _, _, _, hz, hn⟩ := hW
    refine ⟨hok, _, _, ([] ++ before) ++ [], ⟨[] ++ before, [], trodAll_append (harg _ (fun _ _ => rfl)) (hres _ _ _), hvars _ (fun _ _ => rfl), rfl, ?_, ?_⟩, ?_⟩
    · intro b off hp
      have hin : MemPlace.cell b off ∈ before := by simpa using hp
      rw [hb.frozen (hlt _ hin)]
      exact hz b off hin
    · intro ha
      cases ha
    · intro p hp _
      simpa using hp
end

theorem bd_i64 {n : Int} (h : (Lit.int .i64 n).wf = true) : -9223372036854775808 ≤ n ∧ n ≤ 9223372036854775807 := bounds_i64 h
theorem ret_int {k : IntKind} {a b : Int} (h : a = b) : Ending.returned (.int k a) = .returned (.int k b) := by rw [h]
theorem ret_bool {a b : Bool} (h : a = b) : Ending.returned (.bool a) = .returned (.bool b) := by rw [h]
theorem ret_val {a b : Value} (h : a = b) : Ending.returned a = .returned b := by rw [h]
theorem Below.drewN' {B : Nat} {a w : World} (h : Below B a w) (n : Nat) : Below B a (w.drewN n) := ⟨h.os, h.tape, h.output, h.size, h.block⟩
theorem Below.alloc' {B : Nat} {a w : World} (hB : B ≤ w.heap.size) (h : Below B a w) (o : Obj) : Below B a (w.alloc o) := h.alloc hB o
theorem Below.setCell' {B : Nat} {a w : World} {p : Addr} (hp : B ≤ p.block) (h : Below B a w) (u : Value) : Below B a (w.setCell p u) := h.setCell hp u
theorem Below.transA {B B' : Nat} {a b c : World} (hB : B ≤ B') (h2 : Below B' b c) (h1 : Below B a b) : Below B a c := h1.trans (h2.mono hB)
theorem drewN_two (w : World) (a b : Nat) : (w.drewN a).drewN b = w.drewN (a + b) := World.drewN_drewN w a b
theorem bcell {W w1 : World} (hb : Below W.heap.size W w1) : (∀ b o, b < W.heap.size → w1.cell? ⟨b, o, none⟩ = W.cell? ⟨b, o, none⟩) ∧ (∀ b o, b < W.heap.size → w1.frozen? ⟨b, o, none⟩ = W.frozen? ⟨b, o, none⟩) ∧ ∀ k, k < W.heap.size → k < w1.heap.size :=
  ⟨fun b o h => hb.cell (p := ⟨b, o, none⟩) h, fun b o h => hb.frozen (p := ⟨b, o, none⟩) h, fun _ h => Nat.lt_of_lt_of_le h hb.size⟩

section
variable {H : Type} {enc : TypeId × Value → H} {W : World} {base : Nat} {spare : Nat → Bool} {held : Bool}
theorem cellsA2 : Tryz.prog.cellsOf 41 = 2 := by kernel_rfl
theorem open_A2 {v : Value} {d : DataW H} {p : List MemPlace} (hv : Value.okWide Tryz.prog W .any base 41 v) (h : DataW.Trod enc Tryz.prog W 0 spare held 41 v d p) :
    ∃ a b : Int, v = .agg #[.int .i64 a, .int .i64 b] ∧ (-9223372036854775808 ≤ a ∧ a ≤ 9223372036854775807) ∧ (-9223372036854775808 ≤ b ∧ b ≤ 9223372036854775807) := by
  have hcs : ∃ cs, v = .agg cs ∧ cs.size = 2 := by
    simp only [Value.okWide, Tryz.underlying41] at hv
    obtain ⟨cs, h1, h2, _⟩ := hv
    exact ⟨cs, h1, h2.trans cellsA2⟩
  obtain ⟨cs, rfl, hsz⟩ := hcs
  obtain ⟨c0, c1, rfl⟩ := Joins.array2 hsz
  obtain ⟨fuel, hf⟩ := h
  obtain ⟨xs, m, _, hx, hl, hn, hg⟩ := DataW.trod_array Tryz.underlying41 hf
  have k3 : Tryz.prog.cellsOf 3 = 1 := by kernel_rfl
  match xs, hn with
  | [y0, y1], _ =>
    have g0 := hg 0 (by omega)
    have g1 := hg 1 (by omega)
    simp only [k3, Value.cells, List.getElem?_cons_zero, List.getElem?_cons_succ] at g0 g1
    obtain ⟨a, ha, _, wa⟩ := DataW.trod_int Tryz.underlying3 g0
    obtain ⟨b, hb, _, wb⟩ := DataW.trod_int Tryz.underlying3 g1
    simp at ha hb
    subst ha; subst hb
    exact ⟨a, b, rfl, bd_i64 wa, bd_i64 wb⟩

/-- Number j of a list (0 beyond its end). -/
def nth (xs : List Int) (j : Nat) : Int := xs.getD j 0
/-- A slice of ints reads as the list xs. -/
def IntS (w : World) (A : Option Addr) (xs : List Int) : Prop :=
  0 < xs.length → ∃ ad, A = some ad ∧ ∀ j, j < xs.length → w.cell? (ad.add j) = some (.int .i64 (nth xs j))
def Bd (xs : List Int) : Prop := ∀ j, -9223372036854775808 ≤ nth xs j ∧ nth xs j ≤ 9223372036854775807
theorem cells_int : Tryz.prog.cellsOf 3 = 1 := by kernel_rfl
theorem bd_of {zs : List Int} (h : ∀ n ∈ zs, (Lit.int .i64 n).wf = true) (k : Nat) : Bd (zs.take k) := fun j => by
  have := range_i64 (zs := zs.take k) (fun n hn => h n (List.mem_of_mem_take hn)) j
  simpa [nth] using this
theorem open_ints' {fuel : Nat} {v : Value} {x : DataW H × List MemPlace} (h : DataW.trod enc Tryz.prog W 0 spare held fuel 24 [v] = some x) (hsp : ∀ b, spare b = true) :
    ∃ A n c xs, v = .slice A n c ∧ xs.length = n ∧ n ≤ c ∧ c ≤ maxLen ∧ Bd xs ∧ IntS W A xs := by
  rcases open_ints Tryz.underlying24 Tryz.underlying3 cells_int h with ⟨hcs, hx⟩ | ⟨a, len, cap, zs, hcs, _, hl, hm, hz, hx, hcell, hwz⟩
  · simp at hcs
    exact ⟨none, 0, 0, [], hcs, rfl, by omega, by simp [maxLen], fun j => by simp [nth], fun h => by simp at h⟩
  · simp at hcs
    rw [hsp, if_pos rfl] at hz
    refine ⟨some a, len, cap, zs.take len, hcs, by simp; omega, hl, hm, bd_of hwz len, fun h0 => ⟨a, rfl, fun j hj => ?_⟩⟩
    have hj' : j < len := by simp at hj; omega
    have := hcell j (by omega)
    rw [this]
    simp [nth, List.getD, hj']
theorem open_IntS {v : Value} {d : DataW H} {p : List MemPlace} (_hv : Value.okWide Tryz.prog W .any base 24 v) (h : DataW.Trod enc Tryz.prog W 0 (fun _ => true) held 24 v d p) :
    ∃ A n c xs, v = .slice A n c ∧ (xs.length = n ∧ n ≤ c ∧ c ≤ maxLen ∧ Bd xs ∧ IntS W A xs) := by
  obtain ⟨fuel, hf⟩ := h
  obtain ⟨A, n, c, rfl⟩ := okWide_slice Tryz.underlying24 _hv
  obtain ⟨A, n, c, xs, h1, h2⟩ := open_ints' (v := .slice A n c) (by simpa [Value.cells] using hf) (fun _ => rfl)
  exact ⟨A, n, c, xs, h1, h2⟩
end
end Go.Proofs.YtgccidkkfalaeaaGreatDoor
/- FnExactChecksum: the program's Checksum and the reference's return the same, for every string. No condition. -/
namespace Go.Proofs.YtgccidkkfalaeaaGreatDoor
open Go.ChangeShapes Go.WideShapes Go.ChangeAt Go.RowKit
open Go.ChangeMaps (open_string shut_string)

def csum (l : List UInt8) : Int := l.foldl (fun h c => (41 * h + (c.toNat : Int) + 1) % 999979) 7
theorem csum_bd (l : List UInt8) : 0 ≤ csum l ∧ csum l < 999979 := by
  unfold csum
  suffices h : ∀ a : Int, 0 ≤ a → a < 999979 → 0 ≤ l.foldl (fun h c => (41 * h + (c.toNat : Int) + 1) % 999979) a ∧ l.foldl (fun h c => (41 * h + (c.toNat : Int) + 1) % 999979) a < 999979 from h 7 (by omega) (by omega)
  induction l with
  | nil => intro a h0 h1; exact ⟨h0, h1⟩
  | cons c l ih => intro a h0 h1; exact ih _ (by dsimp only; omega) (by dsimp only; omega)
theorem take_snoc (s : ByteArray) (k : Nat) (h : k < s.size) : s.data.toList.take (k + 1) = s.data.toList.take k ++ [s[k]] := by
  rw [List.take_succ_eq_append_getElem (by simpa using h)]; rfl
theorem csum_snoc (l : List UInt8) (c : UInt8) : csum (l ++ [c]) = (41 * csum l + (c.toNat : Int) + 1) % 999979 := by
  unfold csum; rw [List.foldl_append]; rfl

def ckV (s : ByteArray) : Value := if s.size ≤ 4000 then .tuple #[.int .i64 (csum s.data.toList), .bool true] else .tuple #[.int .i64 0, .bool false]

namespace fnExactChecksum
end fnExactChecksum
end Go.Proofs.YtgccidkkfalaeaaGreatDoor
/- Contracts of the functions on fractions. -/
namespace Go.Proofs.YtgccidkkfalaeaaGreatDoor
open Go.ChangeShapes Go.WideShapes Go.ChangeAt Go.RowKit

set_option maxHeartbeats 400000 in
theorem within_any (n a b : Int) (w : World) :
    Calls Tryz.prog 39 #[.int .i64 n, .int .i64 a, .int .i64 b] w fun e w' => e = .returned (.bool (decide (a ≤ n ∧ n ≤ b))) ∧ w = w' := by
  by_cases h : a ≤ n
  · by_cases h1 : n ≤ b
    · go_enter Tryz.func39, Tryz.ntmps39
      go_wp2
      go_ret
      exact ⟨by simp [h, h1], rfl⟩
    · go_enter Tryz.func39, Tryz.ntmps39
      go_wp2
      go_ret
      exact ⟨by simp [h1], rfl⟩
  · go_enter Tryz.func39, Tryz.ntmps39
    go_wp2
    go_ret
    exact ⟨ret_bool (by simp; omega), rfl⟩

theorem within_yes (n a b : Int) (w : World) (h : a ≤ n) (h1 : n ≤ b) :
    Calls Tryz.prog 39 #[.int .i64 n, .int .i64 a, .int .i64 b] w fun e w' => e = .returned (.bool true) ∧ w = w' :=
  (within_any n a b w).mono fun _ _ ⟨he, hw⟩ => ⟨he.trans (ret_bool (by simp [h, h1])), hw⟩
theorem within_no (n a b : Int) (w : World) (h : ¬ (a ≤ n ∧ n ≤ b)) :
    Calls Tryz.prog 39 #[.int .i64 n, .int .i64 a, .int .i64 b] w fun e w' => e = .returned (.bool false) ∧ w = w' :=
  (within_any n a b w).mono fun _ _ ⟨he, hw⟩ => ⟨he.trans (ret_bool (decide_eq_false h)), hw⟩
set_option maxHeartbeats 400000 in
theorem l1In_any (n a b : Int) (w : World) :
    Calls Tryz.prog 65 #[.int .i64 n, .int .i64 a, .int .i64 b] w fun e w' => e = .returned (.bool (decide (a ≤ n ∧ n ≤ b))) ∧ w = w' := by
  by_cases h : a ≤ n
  · by_cases h1 : n ≤ b
    · go_enter Tryz.func65, Tryz.ntmps65
      go_wp2
      go_ret
      exact ⟨by simp [h, h1], rfl⟩
    · go_enter Tryz.func65, Tryz.ntmps65
      go_wp2
      go_ret
      exact ⟨by simp [h1], rfl⟩
  · go_enter Tryz.func65, Tryz.ntmps65
    go_wp2
    go_ret
    exact ⟨ret_bool (by simp; omega), rfl⟩

theorem l1In_yes (n a b : Int) (w : World) (h : a ≤ n) (h1 : n ≤ b) :
    Calls Tryz.prog 65 #[.int .i64 n, .int .i64 a, .int .i64 b] w fun e w' => e = .returned (.bool true) ∧ w = w' :=
  (l1In_any n a b w).mono fun _ _ ⟨he, hw⟩ => ⟨he.trans (ret_bool (by simp [h, h1])), hw⟩
theorem l1In_no (n a b : Int) (w : World) (h : ¬ (a ≤ n ∧ n ≤ b)) :
    Calls Tryz.prog 65 #[.int .i64 n, .int .i64 a, .int .i64 b] w fun e w' => e = .returned (.bool false) ∧ w = w' :=
  (l1In_any n a b w).mono fun _ _ ⟨he, hw⟩ => ⟨he.trans (ret_bool (decide_eq_false h)), hw⟩
theorem toNat_emod_lt (a b : Int) (hb : b ≠ 0) : (a.tmod b).natAbs < b.natAbs := by
  rw [Int.natAbs_tmod]; exact Nat.mod_lt _ (by omega)
theorem gcd_step (a b : Int) : Int.gcd b (a.tmod b) = Int.gcd a b := by
  unfold Int.gcd
  rw [Int.natAbs_tmod, Nat.gcd_comm b.natAbs, ← Nat.gcd_rec, Nat.gcd_comm]
theorem tmod_bd (a b : Int) (hb : b ≠ 0) (h0 : -4611686018427387904 ≤ b) (h1 : b ≤ 4611686018427387904) : -4611686018427387904 ≤ a.tmod b ∧ a.tmod b ≤ 4611686018427387904 := by
  have := toNat_emod_lt a b hb
  omega

set_option maxHeartbeats 1000000 in
theorem commonDivisor_any (a b : Int) (w : World) (ha : -4611686018427387904 ≤ a ∧ a ≤ 4611686018427387904) (hb : -4611686018427387904 ≤ b ∧ b ≤ 4611686018427387904) :
    Calls Tryz.prog 76 #[.int .i64 a, .int .i64 b] w fun e w' => e = .returned (.int .i64 (Int.gcd a b)) ∧ ∃ n, w' = w.drewN n := by
  obtain ⟨ha0, ha1⟩ := ha
  obtain ⟨hb0, hb1⟩ := hb
  go_enter Tryz.func76, Tryz.ntmps76
  go_wp2
  go_loopw [0, 1] (fun va vb wr => ∃ x y : Int, va = .int .i64 x ∧ vb = .int .i64 y ∧ -4611686018427387904 ≤ x ∧ x ≤ 4611686018427387904 ∧ -4611686018427387904 ≤ y ∧ y ≤ 4611686018427387904 ∧ Hid (Int.gcd x y = Int.gcd a b) ∧ ∃ n, wr = w.drewN n) (fun _ vb _ => (intOf vb).natAbs)
  case atStart => exact ⟨a, b, rfl, rfl, ha0, ha1, hb0, hb1, rfl, 0, rfl⟩
  case round =>
    obtain ⟨x, y, rfl, rfl, hx0, hx1, hy0, hy1, HG, nq, rfl⟩ := hrel
    by_cases hz : y = 0
    · subst hz
      have hG : (x.natAbs : Int) = (Int.gcd a b : Int) := by rw [← HG.out]; simp
      have HG' : Hid ((x.natAbs : Int) = (Int.gcd a b : Int)) := hG
      clear hG
      go_wp2
      all_goals
        go_ret
        exact ⟨ret_int (by rw [← HG'.out]; omega), nq, rfl⟩
    · have hb := tmod_bd x y hz hy0 hy1
      have hg := gcd_step x y
      have HG' : Hid (Int.gcd y (x.tmod y) = Int.gcd a b) := by rw [hg]; exact HG.out
      obtain ⟨hb0', hb1'⟩ := hb
      clear hg
      go_wp2_with fail
      go_quiet (fail)
      go_wp2
      go_roundw
      case rel => exact ⟨y, x.tmod y, rfl, rfl, hy0, hy1, hb0', hb1', HG', _, drewN_two _ _ _⟩
      case measure => simp [intOf]; exact Nat.mod_lt _ (by omega)

theorem below_drewN (w : World) (n : Nat) : Below w.heap.size w (w.drewN n) := ⟨rfl, rfl, rfl, Nat.le_refl _, fun _ _ => rfl⟩
theorem quiet_eq {P : Program} {f : FuncId} {args : Array Value} {w : World} {n : Nat} {v : Value}
    (h : Calls P f args (w.drewN n) fun e w' => e = .returned v ∧ w.drewN n = w') : Calls P f args (w.drewN n) fun e w'' => e = .returned v ∧ ∃ m, w'' = w.drewN m :=
  h.mono fun _ _ ⟨he, hm⟩ => ⟨he, n, hm.symm⟩
theorem commonDivisor_d (a b d : Int) (w : World) (hd : Hid ((Int.gcd a b : Int) = d)) (ha : -4611686018427387904 ≤ a ∧ a ≤ 4611686018427387904) (hb : -4611686018427387904 ≤ b ∧ b ≤ 4611686018427387904) :
    Calls Tryz.prog 76 #[.int .i64 a, .int .i64 b] w fun e w' => e = .returned (.int .i64 d) ∧ ∃ n, w' = w.drewN n := by
  have h := commonDivisor_any a b w ha hb
  rw [hd.out] at h
  exact h

theorem gcd_le (a b : Int) (hb : b ≠ 0) : (Int.gcd a b : Int) ≤ b.natAbs := by
  have := Int.gcd_le_natAbs_right (a := a) hb
  omega
theorem gcd_pos (a b : Int) (hb : b ≠ 0) : 0 < (Int.gcd a b : Int) := by
  have := Int.gcd_pos_of_ne_zero_right a hb
  omega
/-- The divisor of 'lowest', with the sign of b. -/
def lowD (a b : Int) : Int := if b < 0 then -(Int.gcd a b : Int) else (Int.gcd a b : Int)
def lowX (a b : Int) : Int := a.tdiv (lowD a b)
def lowY (a b : Int) : Int := b.tdiv (lowD a b)
def lowOk (a b : Int) : Bool := decide (-1000000000 ≤ lowX a b ∧ lowX a b ≤ 1000000000) && decide (lowY a b ≤ 1000000)
def lowN (a b : Int) : Int := if lowOk a b then lowX a b else 0
def lowM (a b : Int) : Int := if lowOk a b then lowY a b else 0
theorem tdiv_bd (a d B : Int) (_hB : 0 ≤ B) (h : -B ≤ a ∧ a ≤ B) : -B ≤ a.tdiv d ∧ a.tdiv d ≤ B := by
  have h1 : (a.tdiv d).natAbs ≤ a.natAbs := by rw [Int.natAbs_tdiv]; exact Nat.div_le_self _ _
  omega

set_option maxHeartbeats 1000000 in
theorem lowest_any (a b : Int) (w : World) (hb0 : b ≠ 0) (ha : -4000000000000000000 ≤ a ∧ a ≤ 4000000000000000000) (hb : -4000000000000000000 ≤ b ∧ b ≤ 4000000000000000000) :
    Calls Tryz.prog 61 #[.int .i64 a, .int .i64 b] w fun e w' => e = .returned (.tuple #[.agg #[.int .i64 (lowN a b), .int .i64 (lowM a b)], .bool (lowOk a b)]) ∧ Below w.heap.size w w' := by
  have hd0 := gcd_pos a b hb0
  have hdl := gcd_le a b hb0
  have hx := tdiv_bd a (lowD a b) 4000000000000000000 (by omega) ha
  have hy := tdiv_bd b (lowD a b) 4000000000000000000 (by omega) hb
  change _ ≤ lowX a b ∧ lowX a b ≤ _ at hx
  change _ ≤ lowY a b ∧ lowY a b ≤ _ at hy
  have hX : Hid (a.tdiv (lowD a b) = lowX a b) := rfl
  have hY : Hid (b.tdiv (lowD a b) = lowY a b) := rfl
  have hD : Hid (lowD a b = if b < 0 then -(Int.gcd a b : Int) else (Int.gcd a b : Int)) := rfl
  have hOk : Hid (lowOk a b = (decide (-1000000000 ≤ lowX a b ∧ lowX a b ≤ 1000000000) && decide (lowY a b ≤ 1000000))) := rfl
  have hN : Hid (lowN a b = if lowOk a b then lowX a b else 0) := rfl
  have hM : Hid (lowM a b = if lowOk a b then lowY a b else 0) := rfl
  generalize lowN a b = N at *
  generalize lowM a b = M at *
  generalize lowOk a b = O at *
  generalize lowX a b = X at *
  generalize lowY a b = Y at *
  generalize lowD a b = D at *
  have hg : Hid ((Int.gcd a b : Int) = (Int.gcd a b : Int)) := rfl
  obtain ⟨d, hd⟩ : ∃ d : Int, Hid ((Int.gcd a b : Int) = d) := ⟨_, rfl⟩
  have hd1 := hd.out
  rw [hd1] at hd0 hD hdl
  clear hd1 hg
  obtain ⟨hx0, hx1⟩ := hx
  obtain ⟨hy0, hy1⟩ := hy
  obtain ⟨ha0, ha1⟩ := ha
  obtain ⟨hbb0, hbb1⟩ := hb
  have hz : (D == 0) = false := by
    have h := hD.out
    simp only [beq_eq_false_iff_ne]
    split at h <;> omega
  have hz0 : ¬ D = 0 := by simpa using hz
  by_cases h1 : -1000000000 ≤ X ∧ X ≤ 1000000000
  · by_cases h2 : Y ≤ 1000000
    · have hO : O = true := by rw [hOk.out]; simp [h1, h2]
      subst hO
      have hN' : X = N := by rw [hN.out]; rfl
      have hM' : Y = M := by rw [hM.out]; rfl
      subst hN'; subst hM'
      by_cases hneg : b < 0
      · skip
        have hD' := hD.out.symm
        rw [if_pos hneg] at hD'
        subst hD'
        have ht1 : (a.tdiv (-d)) = X := hX.out
        have ht2 : (b.tdiv (-d)) = Y := hY.out
        go_enter Tryz.func61, Tryz.ntmps61
        go_wp2_with (go_at_call 76; refine (commonDivisor_d a b d _ hd ⟨by omega, by omega⟩ ⟨by omega, by omega⟩).mono ?_; rintro e w' ⟨rfl, nq, rfl⟩)
        go_quiet (fail)
        clear ht1 ht2
        go_wp2_with (go_at_call 39; refine (within_yes _ _ _ _ h1.1 h1.2).mono ?_; rintro e w' ⟨rfl, rfl⟩)
        exact bodyPost_ret (v := .tuple #[.agg #[.int .i64 X, .int .i64 Y], .bool true]) (by simp [results, Tryz.results61, go_sem]) rfl ⟨rfl, by (repeat (first | with_reducible exact Below.refl _ _ | with_reducible assumption | with_reducible refine Below.alloc' ?_ ?_ _ | with_reducible refine Below.setCell' ?_ ?_ _ | with_reducible refine Below.drewN' ?_ _ | with_reducible refine Below.drew ?_ | with_reducible refine Below.transA ?_ (by assumption) ?_ | omega | (focus (simp; done)) | (focus (simp; omega))))⟩
      · skip
        have hD' := hD.out.symm
        rw [if_neg hneg] at hD'
        subst hD'
        have ht1 : (a.tdiv (d)) = X := hX.out
        have ht2 : (b.tdiv (d)) = Y := hY.out
        go_enter Tryz.func61, Tryz.ntmps61
        go_wp2_with (go_at_call 76; refine (commonDivisor_d a b d _ hd ⟨by omega, by omega⟩ ⟨by omega, by omega⟩).mono ?_; rintro e w' ⟨rfl, nq, rfl⟩)
        go_quiet (fail)
        clear ht1 ht2
        go_wp2_with (go_at_call 39; refine (within_yes _ _ _ _ h1.1 h1.2).mono ?_; rintro e w' ⟨rfl, rfl⟩)
        exact bodyPost_ret (v := .tuple #[.agg #[.int .i64 X, .int .i64 Y], .bool true]) (by simp [results, Tryz.results61, go_sem]) rfl ⟨rfl, by (repeat (first | with_reducible exact Below.refl _ _ | with_reducible assumption | with_reducible refine Below.alloc' ?_ ?_ _ | with_reducible refine Below.setCell' ?_ ?_ _ | with_reducible refine Below.drewN' ?_ _ | with_reducible refine Below.drew ?_ | with_reducible refine Below.transA ?_ (by assumption) ?_ | omega | (focus (simp; done)) | (focus (simp; omega))))⟩
    · have hO : O = false := by rw [hOk.out]; simp [h2]
      subst hO
      have hN' : N = 0 := by rw [hN.out]; rfl
      have hM' : M = 0 := by rw [hM.out]; rfl
      subst hN'; subst hM'
      by_cases hneg : b < 0
      · skip
        have hD' := hD.out.symm
        rw [if_pos hneg] at hD'
        subst hD'
        have ht1 : (a.tdiv (-d)) = X := hX.out
        have ht2 : (b.tdiv (-d)) = Y := hY.out
        go_enter Tryz.func61, Tryz.ntmps61
        go_wp2_with (go_at_call 76; refine (commonDivisor_d a b d _ hd ⟨by omega, by omega⟩ ⟨by omega, by omega⟩).mono ?_; rintro e w' ⟨rfl, nq, rfl⟩)
        go_quiet (fail)
        clear ht1 ht2
        go_wp2_with (go_at_call 39; refine (within_yes _ _ _ _ h1.1 h1.2).mono ?_; rintro e w' ⟨rfl, rfl⟩)
        exact bodyPost_ret (v := .tuple #[.agg #[.int .i64 0, .int .i64 0], .bool false]) (by simp [results, Tryz.results61, go_sem]) rfl ⟨rfl, by (repeat (first | with_reducible exact Below.refl _ _ | with_reducible assumption | with_reducible refine Below.alloc' ?_ ?_ _ | with_reducible refine Below.setCell' ?_ ?_ _ | with_reducible refine Below.drewN' ?_ _ | with_reducible refine Below.drew ?_ | with_reducible refine Below.transA ?_ (by assumption) ?_ | omega | (focus (simp; done)) | (focus (simp; omega))))⟩
      · skip
        have hD' := hD.out.symm
        rw [if_neg hneg] at hD'
        subst hD'
        have ht1 : (a.tdiv (d)) = X := hX.out
        have ht2 : (b.tdiv (d)) = Y := hY.out
        go_enter Tryz.func61, Tryz.ntmps61
        go_wp2_with (go_at_call 76; refine (commonDivisor_d a b d _ hd ⟨by omega, by omega⟩ ⟨by omega, by omega⟩).mono ?_; rintro e w' ⟨rfl, nq, rfl⟩)
        go_quiet (fail)
        clear ht1 ht2
        go_wp2_with (go_at_call 39; refine (within_yes _ _ _ _ h1.1 h1.2).mono ?_; rintro e w' ⟨rfl, rfl⟩)
        exact bodyPost_ret (v := .tuple #[.agg #[.int .i64 0, .int .i64 0], .bool false]) (by simp [results, Tryz.results61, go_sem]) rfl ⟨rfl, by (repeat (first | with_reducible exact Below.refl _ _ | with_reducible assumption | with_reducible refine Below.alloc' ?_ ?_ _ | with_reducible refine Below.setCell' ?_ ?_ _ | with_reducible refine Below.drewN' ?_ _ | with_reducible refine Below.drew ?_ | with_reducible refine Below.transA ?_ (by assumption) ?_ | omega | (focus (simp; done)) | (focus (simp; omega))))⟩
  · have hO : O = false := by rw [hOk.out]; simp [h1]
    subst hO
    have hN' : N = 0 := by rw [hN.out]; rfl
    have hM' : M = 0 := by rw [hM.out]; rfl
    subst hN'; subst hM'
    by_cases hneg : b < 0
    · skip
      have hD' := hD.out.symm
      rw [if_pos hneg] at hD'
      subst hD'
      have ht1 : (a.tdiv (-d)) = X := hX.out
      have ht2 : (b.tdiv (-d)) = Y := hY.out
      go_enter Tryz.func61, Tryz.ntmps61
      go_wp2_with (go_at_call 76; refine (commonDivisor_d a b d _ hd ⟨by omega, by omega⟩ ⟨by omega, by omega⟩).mono ?_; rintro e w' ⟨rfl, nq, rfl⟩)
      go_quiet (fail)
      clear ht1 ht2
      go_wp2_with (go_at_call 39; refine (within_no _ _ _ _ h1).mono ?_; rintro e w' ⟨rfl, rfl⟩)
      exact bodyPost_ret (v := .tuple #[.agg #[.int .i64 0, .int .i64 0], .bool false]) (by simp [results, Tryz.results61, go_sem]) rfl ⟨rfl, by (repeat (first | with_reducible exact Below.refl _ _ | with_reducible assumption | with_reducible refine Below.alloc' ?_ ?_ _ | with_reducible refine Below.setCell' ?_ ?_ _ | with_reducible refine Below.drewN' ?_ _ | with_reducible refine Below.drew ?_ | with_reducible refine Below.transA ?_ (by assumption) ?_ | omega | (focus (simp; done)) | (focus (simp; omega))))⟩
    · skip
      have hD' := hD.out.symm
      rw [if_neg hneg] at hD'
      subst hD'
      have ht1 : (a.tdiv (d)) = X := hX.out
      have ht2 : (b.tdiv (d)) = Y := hY.out
      go_enter Tryz.func61, Tryz.ntmps61
      go_wp2_with (go_at_call 76; refine (commonDivisor_d a b d _ hd ⟨by omega, by omega⟩ ⟨by omega, by omega⟩).mono ?_; rintro e w' ⟨rfl, nq, rfl⟩)
      go_quiet (fail)
      clear ht1 ht2
      go_wp2_with (go_at_call 39; refine (within_no _ _ _ _ h1).mono ?_; rintro e w' ⟨rfl, rfl⟩)
      exact bodyPost_ret (v := .tuple #[.agg #[.int .i64 0, .int .i64 0], .bool false]) (by simp [results, Tryz.results61, go_sem]) rfl ⟨rfl, by (repeat (first | with_reducible exact Below.refl _ _ | with_reducible assumption | with_reducible refine Below.alloc' ?_ ?_ _ | with_reducible refine Below.setCell' ?_ ?_ _ | with_reducible refine Below.drewN' ?_ _ | with_reducible refine Below.drew ?_ | with_reducible refine Below.transA ?_ (by assumption) ?_ | omega | (focus (simp; done)) | (focus (simp; omega))))⟩


def Frac (a b : Int) : Prop := -1000000000 ≤ a ∧ a ≤ 1000000000 ∧ 1 ≤ b ∧ b ≤ 1000000 ∧ Int.gcd a b = 1
instance (a b : Int) : Decidable (Frac a b) := by unfold Frac; infer_instance
def isFrac (a b : Int) : Bool := decide (Frac a b)

theorem l1Most_any (a b : Int) (w : World) :
    Calls Tryz.prog 80 #[.int .i64 a, .int .i64 b] w fun e w' => e = .returned (.int .i64 (max a b)) ∧ w = w' := by
  by_cases h : b < a
  · go_enter Tryz.func80, Tryz.ntmps80
    go_wp2
    go_ret
    exact ⟨ret_int (by omega), rfl⟩
  · go_enter Tryz.func80, Tryz.ntmps80
    go_wp2
    go_ret
    exact ⟨ret_int (by omega), rfl⟩
theorem l2Abs_any (a : Int) (w : World) (ha : -9000000000000000000 ≤ a ∧ a ≤ 9000000000000000000) :
    Calls Tryz.prog 78 #[.int .i64 a] w fun e w' => e = .returned (.int .i64 (a.natAbs : Int)) ∧ w = w' := by
  obtain ⟨h0, h1⟩ := ha
  go_enter Tryz.func78, Tryz.ntmps78
  go_wp2_with (go_at_call 80; refine (l1Most_any _ _ _).mono ?_; rintro e w' ⟨rfl, rfl⟩)
  go_ret
  exact ⟨ret_int (by omega), rfl⟩
set_option maxHeartbeats 1000000 in
theorem l2Gcd_any (a b : Int) (w : World) (ha : 0 ≤ a ∧ a ≤ 9000000000000000000) (hb : 0 ≤ b ∧ b ≤ 9000000000000000000) :
    Calls Tryz.prog 77 #[.int .i64 a, .int .i64 b] w fun e w' => e = .returned (.int .i64 (Int.gcd a b)) ∧ ∃ n, w' = w.drewN n := by
  obtain ⟨ha0, ha1⟩ := ha
  obtain ⟨hb0, hb1⟩ := hb
  go_enter Tryz.func77, Tryz.ntmps77
  go_wp2
  go_loopw [0, 1] (fun va vb wr => ∃ x y : Int, va = .int .i64 x ∧ vb = .int .i64 y ∧ 0 ≤ x ∧ x ≤ 9000000000000000000 ∧ 0 ≤ y ∧ y ≤ 9000000000000000000 ∧ Hid (Int.gcd x y = Int.gcd a b) ∧ ∃ n, wr = w.drewN n) (fun _ vb _ => (intOf vb).toNat)
  case atStart => exact ⟨a, b, rfl, rfl, ha0, ha1, hb0, hb1, rfl, 0, rfl⟩
  case round =>
    obtain ⟨x, y, rfl, rfl, hx0, hx1, hy0, hy1, HG, nq, rfl⟩ := hrel
    by_cases hz : y = 0
    · subst hz
      have hG : x = (Int.gcd a b : Int) := by rw [← HG.out]; simp; omega
      have HG' : Hid (x = (Int.gcd a b : Int)) := hG
      clear hG
      go_wp2
      go_ret
      exact ⟨ret_int HG'.out, nq, rfl⟩
    · have hm0 : 0 ≤ x % y := Int.emod_nonneg _ hz
      have hm1 : x % y < y := Int.emod_lt_of_pos _ (by omega)
      have HG' : Hid (Int.gcd y (x % y) = Int.gcd a b) := by
        have := gcd_step x y
        rw [Int.tmod_eq_emod_of_nonneg hx0] at this
        exact this.trans HG.out
      go_wp2_with fail
      go_quiet (fail)
      go_wp2
      go_roundw
      case rel => exact ⟨y, x % y, rfl, rfl, hy0, hy1, by omega, by omega, HG', _, drewN_two _ _ _⟩
      case measure => simp [intOf]; omega
end Go.Proofs.YtgccidkkfalaeaaGreatDoor
/- Plain arithmetic on quotients in lowest terms. -/
namespace Go.Proofs.YtgccidkkfalaeaaGreatDoor

theorem lowD_ne (a b : Int) (hb : b ≠ 0) : lowD a b ≠ 0 := by
  have := gcd_pos a b hb
  unfold lowD; split <;> omega
theorem lowD_dvd (a b : Int) : lowD a b ∣ a ∧ lowD a b ∣ b := by
  unfold lowD
  have h1 := Int.gcd_dvd_left a b
  have h2 := Int.gcd_dvd_right a b
  split
  · exact ⟨Int.neg_dvd.mpr h1, Int.neg_dvd.mpr h2⟩
  · exact ⟨h1, h2⟩
theorem low_mul (a b : Int) : lowD a b * lowX a b = a ∧ lowD a b * lowY a b = b := by
  have h := lowD_dvd a b
  exact ⟨Int.mul_tdiv_cancel' h.1, Int.mul_tdiv_cancel' h.2⟩
theorem lowY_pos (a b : Int) (hb : b ≠ 0) : 1 ≤ lowY a b := by
  have h := (low_mul a b).2
  have hp := gcd_pos a b hb
  rcases Int.lt_trichotomy (lowY a b) 0 with h1 | h1 | h1
  · exfalso
    by_cases hn : b < 0
    · have hd : lowD a b < 0 := by unfold lowD; rw [if_pos hn]; omega
      have := Int.mul_pos_of_neg_of_neg hd h1
      omega
    · have hd : 0 < lowD a b := by unfold lowD; rw [if_neg hn]; omega
      have := Int.mul_neg_of_pos_of_neg hd h1
      omega
  · rw [h1] at h; simp at h; omega
  · omega
theorem gcd_lowD (a b : Int) : (lowD a b).natAbs = Int.gcd a b := by
  unfold lowD; split <;> omega
theorem low_coprime (a b : Int) (hb : b ≠ 0) : Int.gcd (lowX a b) (lowY a b) = 1 := by
  have h := low_mul a b
  have hg : Int.gcd (lowD a b * lowX a b) (lowD a b * lowY a b) = Int.gcd a b := by rw [h.1, h.2]
  rw [Int.gcd_mul_left, gcd_lowD] at hg
  have hp := gcd_pos a b hb
  have hp' : 0 < Int.gcd a b := by omega
  exact Nat.eq_of_mul_eq_mul_left hp' (by omega)
theorem dvd_of_coprime {x y z : Int} (h1 : y ∣ x * z) (h : Int.gcd x y = 1) : y ∣ z := by
  rw [← Int.natAbs_dvd_natAbs] at h1 ⊢
  rw [Int.natAbs_mul] at h1
  exact Nat.Coprime.dvd_of_dvd_mul_left (Nat.Coprime.symm h) h1
theorem cross_coprime {x y x' y' : Int} (hy : 1 ≤ y) (hy' : 1 ≤ y') (h : Int.gcd x y = 1) (h' : Int.gcd x' y' = 1) (e : x * y' = x' * y) : x = x' ∧ y = y' := by
  have hd : y ∣ y' := by
    have h1 : y ∣ x * y' := ⟨x', by rw [e, Int.mul_comm]⟩
    exact dvd_of_coprime h1 h
  have hd' : y' ∣ y := by
    have h1 : y' ∣ x' * y := ⟨x, by rw [← e, Int.mul_comm]⟩
    exact dvd_of_coprime h1 h'
  have hyy : y = y' := Int.le_antisymm (Int.le_of_dvd (by omega) hd) (Int.le_of_dvd (by omega) hd')
  subst hyy
  exact ⟨Int.eq_of_mul_eq_mul_right (by omega) e, rfl⟩
theorem low_unique {a b x y : Int} (hb : b ≠ 0) (hy : 1 ≤ y) (h : Int.gcd x y = 1) (e : x * b = a * y) : lowX a b = x ∧ lowY a b = y := by
  have hm := low_mul a b
  have hd := lowD_ne a b hb
  refine cross_coprime (lowY_pos a b hb) hy (low_coprime a b hb) h ?_
  have e2 : lowD a b * (lowX a b * y) = lowD a b * (x * lowY a b) := by
    rw [← Int.mul_assoc, hm.1, ← e, Int.mul_left_comm, hm.2]
  exact Int.eq_of_mul_eq_mul_left hd e2
theorem low_same {a b a' b' : Int} (hb : b ≠ 0) (hb' : b' ≠ 0) (e : a * b' = a' * b) : lowX a b = lowX a' b' ∧ lowY a b = lowY a' b' := by
  have hm := low_mul a' b'
  have hd := lowD_ne a' b' hb'
  refine low_unique hb (lowY_pos a' b' hb') (low_coprime a' b' hb') ?_
  have e2 : lowD a' b' * (lowX a' b' * b) = lowD a' b' * (a * lowY a' b') := by
    rw [← Int.mul_assoc, hm.1, ← e, Int.mul_left_comm, hm.2]
  exact Int.eq_of_mul_eq_mul_left hd e2
theorem low_self {x y : Int} (hy : 1 ≤ y) (h : Int.gcd x y = 1) : lowX x y = x ∧ lowY x y = y :=
  low_unique (by omega) hy h rfl
theorem isFrac_low (a b : Int) (hb : b ≠ 0) : isFrac (lowX a b) (lowY a b) = lowOk a b := by
  have h1 := lowY_pos a b hb
  have h2 := low_coprime a b hb
  unfold isFrac lowOk Frac
  rw [← Bool.decide_and]
  exact decide_eq_decide.mpr ⟨fun ⟨p, q, _, r, _⟩ => ⟨⟨p, q⟩, r⟩, fun ⟨⟨p, q⟩, r⟩ => ⟨p, q, h1, r, h2⟩⟩
theorem low_neg (a b : Int) (hb : b ≠ 0) : lowX (-a) (-b) = lowX a b ∧ lowY (-a) (-b) = lowY a b :=
  low_same (by omega) hb (by rw [Int.neg_mul, Int.mul_neg])
theorem lowOk_congr {a b a' b' : Int} (h : lowX a b = lowX a' b' ∧ lowY a b = lowY a' b') : lowOk a b = lowOk a' b' ∧ lowN a b = lowN a' b' ∧ lowM a b = lowM a' b' := by
  have h0 : lowOk a b = lowOk a' b' := by unfold lowOk; rw [h.1, h.2]
  exact ⟨h0, by unfold lowN; rw [h0, h.1], by unfold lowM; rw [h0, h.2]⟩
theorem lowD_of_pos (a b : Int) (hb : 0 < b) : lowD a b = (Int.gcd a b : Int) := if_neg (by omega)
end Go.Proofs.YtgccidkkfalaeaaGreatDoor
