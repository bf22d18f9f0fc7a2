/- Contracts: a text with a byte more, less, or another one; the draws of a text of a tree and of a way. -/
import Derived.StillTailTactics
import Derived.Test.YtgccidkkfalaeaaGreatDoorMgTr26
import Derived.Test.YtgccidkkfalaeaaGreatDoorMgTr33
import Derived.Test.YtgccidkkfalaeaaGreatDoorMgTr34
import Derived.Test.YtgccidkkfalaeaaGreatDoorMgTr9
import Derived.Test.YtgccidkkfalaeaaGreatDoorMgTr10
import Derived.Test.YtgccidkkfalaeaaGreatDoorMgTr21
namespace Go.Proofs.YtgccidkkfalaeaaGreatDoor
open Go.ChangeShapes Go.WideShapes Go.ChangeAt Go.RowKit
open Go.ChangeMaps (open_string shut_string)

set_option maxHeartbeats 600000 in
set_option maxRecDepth 100000 in
theorem spoilt_draw {g n cc m : Nat} {C : Option Addr} (s v : ByteArray) (w : World) (h : CurB w g C n cc m) (hB : Byt w C n) (hne : ∀ b o, 0 < n → C = some ⟨b, o, none⟩ → b ≠ g) (hm : m + 20 ≤ 1000000) (hn : n ≤ 1000000) (hs : s.size ≤ 4000) (hv : 1 ≤ v.size ∧ v.size ≤ 100) :
    Calls Tryz.prog 48 #[.pointer (some ⟨g, 0, none⟩), .string s, .string v] w fun e w' => ∃ b : ByteArray, b.size ≤ 8200 ∧ e = .returned (.string b) ∧ Drew w g C n cc (m + 6) w' := by
  have HP := Lib.hid (fun W (q : Int) m' (h : CurB W g C n cc m') (hb : Byt W C n) (hm : m' ≤ 999990) (hq : 1 ≤ q ∧ q ≤ 1000000000) => pick_draw q W h hb hne (by omega) hn hq)
  have HK := Lib.hid (fun W W' (hb : Byt W C n) (hk : KeptBut W W' g g) => hb.kept hk hne)
  by_cases h0 : 1 ≤ s.size
  case neg =>
    have hse : s.toList.isEmpty = true := by
      rw [Lib.toList_data]
      cases e : s.data.toList with
      | nil => rfl
      | cons a l => have := congrArg List.length e; rw [← Lib.size_eq, List.length_cons] at this; omega
    have HD := Lib.hid (show Drew w g C n cc (m + 6) w from ⟨h.mono (by omega), KeptBut.refl2 _ _⟩)
    clear hne HP HK hB h h0
    go_enter Tryz.func48, Tryz.ntmps48
    go_wp2
    go_ret
    exact ⟨_, by rw [ByteArray.size_extract]; omega, rfl, HD.out⟩
  have hse : s.toList.isEmpty = false := by
    rw [Lib.toList_data]
    cases e : s.data.toList with
    | nil => have := congrArg List.length e; rw [← Lib.size_eq] at this; have h0 : s.size = 0 := this; omega
    | cons a l => rfl
  clear hne
  go_enter Tryz.func48, Tryz.ntmps48
  go_wp2_with fail
  refine (HP.out _ (s.size : Int) _ h hB (by omega) (by omega)).mono ?_
  rintro e1 w1 ⟨i, rfl, hi0, hi1, hd1⟩
  obtain ⟨i, rfl⟩ := Int.eq_ofNat_of_zero_le hi0
  have hB1 := HK.out _ _ hB hd1.2
  have hi2 : i < s.size := by omega
  go_wp2_with fail
  refine (HP.out _ (v.size : Int) _ hd1.1 hB1 (by omega) (by omega)).mono ?_
  rintro e1 w2 ⟨j, rfl, hj0, hj1, hd2⟩
  obtain ⟨j, rfl⟩ := Int.eq_ofNat_of_zero_le hj0
  have hB2 := HK.out _ _ hB1 hd2.2
  have hj2 : j < v.size := by omega
  have hx1 : (v.extract j v.size).size = v.size - j := by rw [ByteArray.size_extract]; omega
  have hx2 : 1 ≤ v.size - j := by omega
  go_wp2_with fail
  refine (HP.out _ 3 _ hd2.1 hB2 (by omega) (by omega)).mono ?_
  rintro e1 w3 ⟨r, rfl, hr0, hr1, hd3⟩
  have hk := (hd1.2.trans2 hd2.2).trans2 hd3.2
  have HD := Lib.hid (fun q => show Drew w g C n cc (m + 6) (w3.drewN q) from ⟨hd3.1.below (Below.drewN' (Below.refl _ _) _), kept_below hk (Below.drewN' (Below.refl _ _) _)⟩)
  clear hd1 hd2 hd3 hk hB hB1 hB2 h HP HK hse
  have i0 : (0 : Int) ≤ i := by omega
  have i1 : (i : Int) ≤ s.size := by omega
  have u1 : IntKind.i64.wrap ((i : Int) + 1) = (i : Int) + 1 := IntWalk.i64_in _ (by omega)
  have i2 : (i : Int) + 1 ≤ s.size := by omega
  have i3 : (0 : Int) ≤ (i : Int) + 1 := by omega
  obtain rfl | rfl | rfl : r = 0 ∨ r = 1 ∨ r = 2 := by omega
  · clear hr0 hr1
    go_wp2
    go_quiet (fail)
    go_wp2
    go_ret
    refine ⟨_, ?_, rfl, HD.out _⟩
    simp only [ByteArray.size_append, ByteArray.size_extract]
    omega
  · clear hr0 hr1
    go_wp2
    go_quiet (fail)
    go_wp2
    go_ret
    refine ⟨_, ?_, rfl, HD.out _⟩
    simp only [ByteArray.size_append, ByteArray.size_extract]
    omega
  · clear hr0 hr1
    go_wp2
    go_quiet (fail)
    go_wp2
    go_ret
    refine ⟨_, ?_, rfl, HD.out _⟩
    simp only [ByteArray.size_append, ByteArray.size_extract]
    omega
/-- A list of numbers does not lie in a tree's block. -/
theorem ints_off {w : World} {g : Nat} {va vb : Value} {A : Option Addr} {X : List Int} {a b : Option Addr} {n1 n2 c1 c2 : Nat} (h : IntS w A X) (hr : BlkT w g (.slice a n1 c1) (.slice b n2 c2)) : IntS ((w.setCell ⟨g, 0, none⟩ va).setCell ⟨g, 1, none⟩ vb) A X := by
  intro hp
  obtain ⟨b9, o9, rfl, h0⟩ := h.at_ hp
  have hne : b9 ≠ g := by
    intro e
    subst e
    have hr' : w.heap[b9]? = some (.cells #[.slice a n1 c1, .slice b n2 c2] 26 (0, 0)) := hr
    rw [Nat.add_zero] at h0
    unfold World.cell? at h0
    simp only at h0
    split at h0
    · rename_i c e f heq
      rw [hr'] at heq
      cases heq
      match o9 with
      | 0 => simp at h0
      | 1 => simp at h0
      | k + 2 => simp at h0
    · cases h0
  refine ⟨_, rfl, fun j hj => ?_⟩
  obtain ⟨b8, o8, e8, h8⟩ := h.at_ hj
  cases e8
  rw [show (⟨b9, o9, none⟩ : Addr).add j = ⟨b9, o9 + j, none⟩ by simp [Addr.add]]
  exact cell_far (cell_far h8 hne 0) hne 1
set_option maxHeartbeats 2000000 in
set_option maxRecDepth 100000 in
theorem drawWay_any (C : Option Addr) (n cc : Nat) (w : World) (hB : Byt w C n) (hn : n ≤ 1000000) : Calls Tryz.prog 24 #[.slice C n cc] w (RetDz w) := by
  have HN := Lib.hid (fun W (h : Byt W C n) => drawNode_any C n cc W h hn)
  obtain ⟨w0, hw0⟩ : ∃ W, W = w.alloc (.cells #[.slice none 0 0, .slice none 0 0] 26) := ⟨_, rfl⟩
  have hw : Below w.heap.size w w0 := by rw [hw0]; exact (Below.refl _ _).alloc (Nat.le_refl _) _
  have hr0 : BlkT w0 w.heap.size (.slice none 0 0) (.slice none 0 0) := by rw [hw0]; exact BlkT.new w _ _ rfl
  have hB0 := hB.below hw
  clear hB hn
  go_enter Tryz.func24, Tryz.ntmps24
  go_wp2_with fail
  rw [← hw0]
  clear hw0
  refine (HN.out _ hB0).mono ?_
  rintro e1 w1 ⟨X, Y, z, A, B, c, d, rfl, hA, hY, hX, hYl, bX, bY, hz, hb⟩
  have hres := hr0.below hb
  replace hw := keep_below hb hw
  have r0 := hres.c0
  have r1 := hres.c1
  have rf0 := hres.free 0
  have rf1 := hres.free 1
  have hA2 := ints_off (va := .slice A X.length c) (vb := .slice B Y.length d) hA hres
  have hY2 := ints_off (va := .slice A X.length c) (vb := .slice B Y.length d) hY hres
  have hw9 : Below w.heap.size w ((w1.setCell ⟨w.heap.size, 0, none⟩ (.slice A X.length c)).setCell ⟨w.heap.size, 1, none⟩ (.slice B Y.length d)) := Below.setCell' (p := ⟨w.heap.size, 1, none⟩) (Nat.le_refl _) (Below.setCell' (p := ⟨w.heap.size, 0, none⟩) (Nat.le_refl _) hw _) _
  have hwH := Lib.hid hw9
  have HX := Lib.hid hX
  have HYl := Lib.hid hYl
  clear hw9 hA hY hb hr0 hres hw hX hYl hB0 HN
  go_wp2
  refine bodyPost_ret (v := .tuple #[.agg #[.slice A X.length c, .slice B Y.length d], .int .i64 z]) (by simp (maxDischargeDepth := 9) [results, Tryz.results24, go_sem, *]) rfl ⟨X, Y, z, A, B, c, d, rfl, hA2, hY2, HX.out, HYl.out, bX, bY, hz, hwH.out⟩
set_option maxHeartbeats 4000000 in
set_option maxRecDepth 100000 in
theorem drawPT_any (C : Option Addr) (n cc : Nat) (w : World) (hB : Byt w C n) (hn : n ≤ 1000000) :
    Calls Tryz.prog 18 #[.slice C n cc] w fun e w' => ∃ b : ByteArray, b.size ≤ 8200 ∧ e = .returned (.string b) ∧ Below w.heap.size w w' := by
  have hne : ∀ b o, 0 < n → C = some ⟨b, o, none⟩ → b ≠ w.heap.size := fun b o h0 e => by have := byt_lt hB h0 e; omega
  have hC : ∀ W : World, w.heap.size ≤ W.heap.size → ∀ b o, 0 < n → C = some ⟨b, o, none⟩ → b < W.heap.size := fun W hW b o h0 e => by have := byt_lt hB h0 e; omega
  have HT := Lib.hid (fun W m (h : CurB W w.heap.size C n cc m) (hb : Byt W C n) (hW : w.heap.size ≤ W.heap.size) (hm : m + 200 ≤ 1000000) => tree_draw W h hb hne (hC W hW) hn hm)
  have HO := Lib.hid (fun q W m (h : CurB W w.heap.size C n cc m) (hb : Byt W C n) (hm : m ≤ 100000) => one_draw q W h hb hne (by omega) hn)
  have HS := Lib.hid (fun s v W m (h : CurB W w.heap.size C n cc m) (hb : Byt W C n) (hm : m ≤ 100000) => spoilt_draw s v W h hb hne (by omega) hn)
  have HK := Lib.hid (fun W W' (hb : Byt W C n) (hk : KeptBut W W' w.heap.size w.heap.size) => hb.kept hk hne)
  have hc := cur_new w C n cc
  have hw : Below w.heap.size w (w.alloc (.cells #[.slice C n cc, .int .i64 0, .int .u64 0] 48)) := (Below.refl _ _).alloc (Nat.le_refl _) _
  have hB2 := hB.below hw
  obtain ⟨w0, hw0⟩ : ∃ W, W = w.alloc (.cells #[.slice C n cc, .int .i64 0, .int .u64 0] 48) := ⟨_, rfl⟩
  rw [← hw0] at hc hw hB2
  clear hne hC hB hn
  go_enter Tryz.func18, Tryz.ntmps18
  go_wp2_with fail
  rw [← hw0]
  clear hw0
  refine (HT.out _ _ hc hB2 hw.size (by omega)).mono ?_
  rintro e1 w1 ⟨X, Y, A, B, c, d, rfl, hA, hY, hap, hX, hYl, bX, bY, hd⟩
  have hg0 := hc.lt
  replace hw := hd.2.below hw (by omega) (by omega)
  replace hB2 := HK.out _ _ hB2 hd.2
  replace hc := hd.1
  replace hA := hA.ints
  replace hY := hY.ints
  clear hd hap HT
  go_upto_region 4 with (fail)
  obtain ⟨w2, hw2⟩ : ∃ W, W = w1.alloc (.cells #[.slice A X.length c, .slice B Y.length d] 26) := ⟨_, rfl⟩
  have hT : BlkT w2 w1.heap.size (.slice A X.length c) (.slice B Y.length d) := by rw [hw2]; exact BlkT.new w1 _ _ rfl
  have hbA : Below w1.heap.size w1 w2 := by rw [hw2]; exact (Below.refl _ _).alloc (Nat.le_refl _) _
  replace hA := hA.below hbA
  replace hY := hY.below hbA
  replace hw := keep_below hbA hw
  replace hB2 := hB2.below hbA
  replace hc := hc.below hbA
  rw [← hw2]
  clear hw2 hbA
  generalize w1.heap.size = gT at hT ⊢
  cases hg : good X Y
  · have HG := l2Good_any A B c d X Y w2 hA hY bX bY (by omega) (by omega)
    rw [hg] at HG
    have HGh := Lib.hid HG
    clear HG hg bX bY hX hYl hA hY
    have t0 := hT.c0
    have t1 := hT.c1
    go_wp2_with fail
    refine HGh.out.mono ?_
    rintro e1 w3 ⟨rfl, hb⟩
    clear t0 t1 hT HGh
    replace hw := keep_below hb hw
    replace hB2 := hB2.below hb
    replace hc := hc.below hb
    clear hb
    go_wp2_with fail
    refine (HO.out 3 _ _ hc hB2 (by omega) (by omega)).mono ?_
    rintro e1 w5 ⟨z, rfl, hd⟩
    have hg0 := hc.lt
    replace hw := hd.2.below hw (by omega) (by omega)
    replace hB2 := HK.out _ _ hB2 hd.2
    replace hc := hd.1
    clear hd hg0
    cases z with
    | false =>
      clear HO HS HK
      go_wp2
      go_ret
      exact ⟨_, by decide, rfl, hw⟩
    | true =>
      go_wp2_with fail
      refine (HS.out ⟨#[45, 49, 58, 48, 32, 48, 58, 49, 32, 48, 58, 50]⟩ ⟨#[48, 49, 50, 51, 32, 58, 45]⟩ _ _ hc hB2 (by omega) (by decide) (by decide)).mono ?_
      rintro e1 w6 ⟨b, hb, rfl, hd⟩
      have hg0 := hc.lt
      replace hw := hd.2.below hw (by omega) (by omega)
      clear hd hg0 HS HK HO
      go_wp2
      go_ret
      exact ⟨b, hb, rfl, hw⟩
  · have HG := l2Good_any A B c d X Y w2 hA hY bX bY (by omega) (by omega)
    rw [hg] at HG
    have hl := good_len hg
    have HX := Lib.hid (fun W (h : IntS W A X) (k : IntS W B Y) => l2Text_any A B c d X Y W h k hl.2.1 hl.2.2 (good_small hg))
    have hsz : (txB X Y).size ≤ 4000 := by
      have := txB_part X Y (good_small hg) X.length
      show (jnB 32 (treeL X Y X.length)).size ≤ _
      omega
    generalize txB X Y = T9 at HX hsz
    have HGh := Lib.hid HG
    clear HG hg bX bY hX hYl hl
    have t0 := hT.c0
    have t1 := hT.c1
    go_wp2_with fail
    refine HGh.out.mono ?_
    rintro e1 w3 ⟨rfl, hb⟩
    clear t0 t1 HGh
    replace hw := keep_below hb hw
    replace hB2 := hB2.below hb
    replace hc := hc.below hb
    replace hA := hA.below hb
    replace hY := hY.below hb
    replace hT := hT.below hb
    clear hb
    have t0 := hT.c0
    have t1 := hT.c1
    go_wp2_with fail
    refine (HX.out _ hA hY).mono ?_
    rintro e1 w4 ⟨rfl, hb⟩
    replace hw := keep_below hb hw
    replace hB2 := hB2.below hb
    replace hc := hc.below hb
    clear t0 t1 hT hA hY hb HX
    go_wp2_with fail
    refine (HO.out 3 _ _ hc hB2 (by omega) (by omega)).mono ?_
    rintro e1 w5 ⟨z, rfl, hd⟩
    have hg0 := hc.lt
    replace hw := hd.2.below hw (by omega) (by omega)
    replace hB2 := HK.out _ _ hB2 hd.2
    replace hc := hd.1
    clear hd hg0
    cases z with
    | false =>
      clear HO HS HK
      go_wp2
      go_ret
      exact ⟨_, by omega, rfl, hw⟩
    | true =>
      go_wp2_with fail
      refine (HS.out T9 ⟨#[48, 49, 50, 51, 32, 58, 45]⟩ _ _ hc hB2 (by omega) (by omega) (by decide)).mono ?_
      rintro e1 w6 ⟨b, hb, rfl, hd⟩
      have hg0 := hc.lt
      replace hw := hd.2.below hw (by omega) (by omega)
      clear hd hg0 HS HK HO
      go_wp2
      go_ret
      exact ⟨b, hb, rfl, hw⟩
end Go.Proofs.YtgccidkkfalaeaaGreatDoor
/- Plain: what the walk of the law on trees asks of the reference's values. -/
namespace Go.Proofs.YtgccidkkfalaeaaGreatDoor
open Go.ChangeShapes Go.WideShapes Go.ChangeAt Go.RowKit

theorem psum_bdQ {xs R : List Int} {x : Nat} (h : ∀ j, 0 ≤ nth R j ∧ nth R j ≤ 480) : ∀ k, 0 ≤ psum xs R x k ∧ psum xs R x k ≤ 480 * k
  | 0 => ⟨by simp [psum], by simp [psum]⟩
  | k + 1 => by
    have ih := psum_bdQ h k (xs := xs) (x := x)
    have h1 := h (k + 1)
    unfold psum
    split <;> omega
theorem kcnt_bdQ {xs : List Int} {x : Nat} : ∀ k, kcnt xs x k ≤ k
  | 0 => Nat.le_refl _
  | k + 1 => by
    have ih := kcnt_bdQ (xs := xs) (x := x) k
    unfold kcnt
    split <;> omega
theorem psum_atQ {xs R : List Int} {x j : Nat} (h : 1 ≤ j) : psum xs R x j = psum xs R x (j - 1) + if nth xs j = (x : Int) then nth R j else 0 := by
  obtain ⟨m, rfl⟩ : ∃ m, j = m + 1 := ⟨j - 1, by omega⟩
  rfl
theorem kids_start {xs ys : List Int} (hg : good xs ys = true) (R : List Int) {x : Nat} (hx : x < xs.length) : psum xs R x x = 0 ∧ kcnt xs x x = 0 := by
  have h : ∀ y, 1 ≤ y → y ≤ x → nth xs y ≠ x := fun y h1 h2 => by obtain ⟨p, hp, hpy⟩ := good_upL hg y h1 (by omega); omega
  exact ⟨psum_zero h, (kcnt_zero x).2 h⟩
theorem lsum_bdQ (f : Int → Int) : ∀ (L : List Int), (∀ v ∈ L, 0 ≤ f v ∧ f v ≤ 480) → 0 ≤ lsum f L ∧ lsum f L ≤ 480 * L.length
  | [], _ => ⟨by simp [lsum], by simp [lsum]⟩
  | y :: K, h => by
    have ih := lsum_bdQ f K fun v hv => h v (by simp [hv])
    have h1 := h y (by simp)
    unfold lsum
    rw [List.length_cons]
    omega
noncomputable def txS (xs ys : List Int) : ByteArray := if good xs ys then txB xs ys else ⟨#[]⟩
theorem txV_eq (xs ys : List Int) : txV xs ys = .tuple #[.string (txS xs ys), .bool (good xs ys)] := by
  unfold txV txS; cases good xs ys <;> rfl
theorem trees_no {xs ys : List Int} (hg : good xs ys = false) (d : Int) : cutROk xs ys d = false ∧ prOk xs ys d = false := by
  constructor
  · unfold cutROk; rw [hg]; rfl
  · unfold prOk prIn; rw [hg]; rfl
theorem parse_back {xs ys : List Int} (hg : good xs ys = true) (W : World) (hT : TabE W) (hC : SynC W) (hM : MaxC W) :
    Calls Tryz.prog 19 #[.string (txS xs ys)] W (RetTB W xs ys true) := by
  have hl := good_len hg
  have e : txS xs ys = txB xs ys := by unfold txS; rw [hg]; rfl
  have hs := txB_part xs ys (good_small hg) xs.length
  have hp := parse_text hg
  have := implParseTree_any (txB xs ys) W (by show (jnB 32 (treeL xs ys xs.length)).size ≤ _; omega) true (by simp [hp.1]) hT hC hM
  rw [hp.2.1, hp.2.2] at this
  rw [e]; exact this
theorem one_facts {xs ys : List Int} (hg : good xs ys = true) : sumR xs ys = sumsL xs ys ∧ depR xs ys = dep xs xs.length ∧ endR xs ys = endsL xs ∧ (sumsL xs ys).length = xs.length ∧ (dep xs xs.length).length = xs.length := by
  refine ⟨?_, ?_, ?_, sums_len hg, dep_len _ _⟩
  · unfold sumR; rw [hg]; rfl
  · unfold depR; rw [hg]; rfl
  · unfold endR; rw [hg]; rfl
theorem cut_facts {xs ys : List Int} {d : Int} (h : cutROk xs ys d = true) : (∀ v ∈ cutR xs ys d, 0 ≤ v ∧ v < xs.length) ∧ lsum (fun v => nth (sumR xs ys) v.toNat) (cutR xs ys d) = nth (sumR xs ys) 0 ∧ (cutR xs ys d).length ≤ 24 := by
  have hr : cutR xs ys d = cutL xs ys d := by unfold cutR; rw [h]; rfl
  unfold cutROk at h
  simp only [Bool.and_eq_true] at h
  have hl := good_len h.1
  rw [hr, (one_facts h.1).1]
  refine ⟨fun v hv => ?_, cut_total h.1 (of_decide_eq_true h.2), ?_⟩
  · obtain ⟨x, rfl, hx, _⟩ := mem_pick.1 hv
    omega
  · have := pick_len (inCut xs ys d) xs.length
    unfold cutL; omega
theorem six_facts {xs ys : List Int} {d : Int} (h : prOk xs ys d = true) :
    good (prRP xs ys d) (prRW xs ys d) = true ∧ 1 ≤ (sumR (prRP xs ys d) (prRW xs ys d)).length ∧ nth (sumR (prRP xs ys d) (prRW xs ys d)) 0 = nth (sumR xs ys) 0 ∧ (endR (prRP xs ys d) (prRW xs ys d)).length = (cutR xs ys d).length := by
  have e1 : prRP xs ys d = prP xs d xs.length := by unfold prRP; rw [h]; rfl
  have e2 : prRW xs ys d = prW xs ys d xs.length := by unfold prRW; rw [h]; rfl
  have hs := prune_sum h
  have he := prune_ends h
  have hg : good (prP xs d xs.length) (prW xs ys d xs.length) = true := by
    have h' := h; unfold prOk at h'; simp only [Bool.and_eq_true] at h'; exact h'.2
  have hc : cutROk xs ys d = true := by
    have h' := h; unfold prOk prIn at h'; simp only [Bool.and_eq_true] at h'; unfold cutROk; simp only [Bool.and_eq_true]; exact h'.1
  have hg0 : good xs ys = true := by unfold cutROk at hc; simp only [Bool.and_eq_true] at hc; exact hc.1
  have hr : cutR xs ys d = cutL xs ys d := by unfold cutR; rw [hc]; rfl
  have hl := good_len hg
  have o := one_facts hg
  rw [e1, e2, o.1, o.2.2.1, hr, (one_facts hg0).1]
  exact ⟨hg, by rw [o.2.2.2.1]; omega, hs, he⟩
theorem good_bdQ {xs ys : List Int} (hg : good xs ys = true) : Bd xs ∧ Bd ys := by
  have h := good_small hg
  exact ⟨fun j => by have := (h j).1; omega, fun j => by have := (h j).2; omega⟩
theorem six_sums {xs ys : List Int} {d : Int} (h : prOk xs ys d = true) (A B : Option Addr) (c e : Nat) (W : World) (hA : IntS W A (prRP xs ys d)) (hB : IntS W B (prRW xs ys d)) :
    Calls Tryz.prog 9 #[.agg #[.slice A (prRP xs ys d).length c, .slice B (prRW xs ys d).length e]] W (RetIB W (sumR (prRP xs ys d) (prRW xs ys d)) true) := by
  have hg := (six_facts h).1
  have hl := good_len hg
  have hb := good_bdQ hg
  have := implSumsOf_any A B c e _ _ W hA hB hb.1 hb.2 (by omega) (by omega)
  rw [hg] at this; exact this
theorem six_ends {xs ys : List Int} {d : Int} (h : prOk xs ys d = true) (A B : Option Addr) (c e : Nat) (W : World) (hA : IntS W A (prRP xs ys d)) (hB : IntS W B (prRW xs ys d)) :
    Calls Tryz.prog 14 #[.agg #[.slice A (prRP xs ys d).length c, .slice B (prRW xs ys d).length e]] W (RetIB W (endR (prRP xs ys d) (prRW xs ys d)) true) := by
  have hg := (six_facts h).1
  have hl := good_len hg
  have hb := good_bdQ hg
  have := implEndsOf_any A B c e _ _ W hA hB hb.1 hb.2 (by omega) (by omega)
  rw [hg] at this; exact this
/-- What the walk over the nodes asks. -/
theorem one_walk {xs ys : List Int} (hg : good xs ys = true) :
    (1 ≤ xs.length ∧ xs.length ≤ 24 ∧ ys.length = xs.length ∧ (sumR xs ys).length = xs.length ∧ (depR xs ys).length = xs.length ∧ (endR xs ys).length ≤ xs.length) ∧
    (∀ j, 0 ≤ nth (sumR xs ys) j ∧ nth (sumR xs ys) j ≤ 480) ∧ (∀ j, 0 ≤ nth (depR xs ys) j ∧ nth (depR xs ys) j ≤ 24) ∧
    (∀ k, k < xs.length → psum xs (sumR xs ys) k k = 0 ∧ kcnt xs k k = 0) ∧
    (∀ k j, k < j → j < xs.length → nth xs j = (k : Int) → nth (depR xs ys) j = nth (depR xs ys) k + 1) ∧
    (∀ k, k < xs.length → (kcnt xs k (xs.length - 1) = 0 → hasB (endR xs ys) k = true ∧ nth (sumR xs ys) k = nth ys k) ∧ (kcnt xs k (xs.length - 1) ≠ 0 → hasB (endR xs ys) k = false ∧ psum xs (sumR xs ys) k (xs.length - 1) = nth (sumR xs ys) k)) := by
  obtain ⟨e1, e2, e3, l1, l2⟩ := one_facts hg
  have hl := good_len hg
  rw [e1, e2, e3]
  refine ⟨⟨hl.1, hl.2.1, hl.2.2, l1, l2, ?_⟩, fun j => sums_bd hg j, fun j => ?_, fun k hk => kids_start hg _ hk, fun k j h1 h2 h3 => ?_, fun k hk => ?_⟩
  · exact pick_len (noKid xs xs.length) xs.length
  · have := dep_bd xs xs.length j; omega
  · exact dpt_step (by omega) h2 h3 h1
  · have h1 := kcnt_end hg hk
    have h2 := kids_sum hg hk
    exact ⟨fun h => ⟨by rw [h1]; exact decide_eq_true h, h2.1 h⟩, fun h => ⟨by rw [h1]; exact decide_eq_false h, h2.2 h⟩⟩
end Go.Proofs.YtgccidkkfalaeaaGreatDoor
