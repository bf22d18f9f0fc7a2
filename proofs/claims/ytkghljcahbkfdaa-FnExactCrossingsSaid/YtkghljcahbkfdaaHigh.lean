/- Contracts: the greatest number on the way to each end. -/
import Derived.Test.YtkghljcahbkfdaaWay
import Derived.Test.YtkghljcahbkfdaaCut
import Derived.Test.YtkghljcahbkfdaaStake
namespace Go.Proofs.Ytkghljcahbkfdaa
open Go.ChangeShapes Go.WideShapes Go.ChangeAt Go.RowKit

theorem up_mem {xs : List Int} (hu : ∀ j, 1 ≤ j → j < xs.length → ∃ p : Nat, nth xs j = p ∧ p < j) : ∀ x, x < xs.length → ∀ v ∈ up xs x, ∃ q : Nat, v = q ∧ q ≤ x := by
  intro x
  induction x using Nat.strongRecOn with
  | ind x ih =>
    intro hx v hv
    by_cases h0 : x = 0
    · subst h0; rw [up_zero] at hv; simp at hv; exact ⟨0, hv, Nat.le_refl _⟩
    · obtain ⟨p, hp, hpx⟩ := hu x (by omega) hx
      rw [up_step hu (by omega) hx hp hpx] at hv
      rcases List.mem_cons.1 hv with rfl | hv
      · exact ⟨x, rfl, Nat.le_refl _⟩
      · obtain ⟨q, hq, hqp⟩ := ih p hpx (by omega) v hv
        exact ⟨q, hq, by omega⟩
theorem nth_mem {L : List Int} {j : Nat} (h : j < L.length) : nth L j ∈ L := by
  have : nth L j = L[j] := by simp [nth, List.getD, h]
  rw [this]; exact List.getElem_mem h
theorem way_mem {xs : List Int} (hu : ∀ j, 1 ≤ j → j < xs.length → ∃ p : Nat, nth xs j = p ∧ p < j) {x : Nat} (hx : x < xs.length) {j : Nat} (hj : j < (wayL xs x).length) : ∃ q : Nat, nth (wayL xs x) j = q ∧ q ≤ x :=
  up_mem hu x hx _ (List.mem_reverse.1 (show nth (wayL xs x) j ∈ (up xs x).reverse from nth_mem hj))
theorem ends_mem {xs : List Int} {j : Nat} (h : j < (endsL xs).length) : ∃ y : Nat, nth (endsL xs) j = y ∧ y < xs.length ∧ noKid xs xs.length y = true := pick_mem h
theorem ends_len (xs : List Int) : (endsL xs).length ≤ xs.length := pick_len _ _
/-- What a function gives at the first i numbers of a list. -/
def mapI (f : Int → Int) (E : List Int) (i : Nat) : List Int := (E.take i).map f
theorem mapI_zero (f : Int → Int) (E : List Int) : mapI f E 0 = [] := rfl
theorem mapI_succ (f : Int → Int) (E : List Int) {i : Nat} (h : i < E.length) : mapI f E (i + 1) = mapI f E i ++ [f (nth E i)] := by
  unfold mapI
  rw [List.take_succ_eq_append_getElem h, List.map_append]
  congr 1
  simp [nth, List.getD, h]
theorem mapI_all (f : Int → Int) (E : List Int) : mapI f E E.length = E.map f := by simp [mapI]
theorem mapI_len (f : Int → Int) (E : List Int) {i : Nat} (h : i ≤ E.length) : (mapI f E i).length = i := by simp [mapI]; omega

theorem ite_max (a b : Int) : (if b < a then a else b) = max b a := by split <;> omega
/-- The greatest of the pays of the first k nodes of a way, and of the root's. -/
def maxW (ps W : List Int) : Nat → Int
  | 0 => nth ps 0
  | k + 1 => max (maxW ps W k) (nth ps (nth W k).toNat)
def highE (xs ps : List Int) (y : Int) : Int := maxW ps (wayL xs y.toNat) (wayL xs y.toNat).length
def highL (xs ps : List Int) : List Int := mapI (highE xs ps) (endsL xs) (endsL xs).length
theorem highL_len (xs ps : List Int) : (highL xs ps).length ≤ xs.length := by
  unfold highL; rw [mapI_len _ _ (Nat.le_refl _)]; exact ends_len xs
theorem ends_pos {xs ys : List Int} (h : good xs ys = true) : 1 ≤ (endsL xs).length := by
  have hl := good_len h
  have h1 := last_end h
  have h2 := wt_end h (x := xs.length - 1) (by omega)
  have h3 : noKid xs xs.length (xs.length - 1) = true := by rw [← h2]; simpa using (by omega : 0 < nth ys (xs.length - 1))
  unfold endsL pick
  have h4 : ((xs.length - 1 : Nat) : Int) ∈ ((List.range xs.length).filter (noKid xs xs.length)).map (fun x : Nat => (x : Int)) :=
    List.mem_map.2 ⟨xs.length - 1, List.mem_filter.2 ⟨List.mem_range.2 (by omega), h3⟩, rfl⟩
  exact List.length_pos_of_mem h4
noncomputable def procOk (xs ys ps : List Int) : Bool := good xs ys && isProc xs.length ps
noncomputable def highR (xs ys ps : List Int) : List Int := if procOk xs ys ps then highL xs ps else []
theorem highR_no {xs ys ps : List Int} (h : procOk xs ys ps = false) : highR xs ys ps = [] := by unfold highR; rw [h]; rfl
theorem highR_yes {xs ys ps : List Int} (h : procOk xs ys ps = true) : highR xs ys ps = highL xs ps := by unfold highR; rw [h]; rfl
theorem highR_len (xs ys ps : List Int) (hn : xs.length ≤ 1048576) : (highR xs ys ps).length ≤ 2000000 := by
  unfold highR; split
  · have := highL_len xs ps; omega
  · simp
set_option maxHeartbeats 1000000 in
set_option maxRecDepth 100000 in
theorem specHighestOf_any (A B : Option Addr) (c e : Nat) (xs ys : List Int) (P : Option Addr) (cp : Nat) (ps : List Int) (w : World) (h : IntS w A xs) (k : IntS w B ys) (zp : IntS w P ps) (_hx : Bd xs) (_hy : Bd ys) (_bp : Bd ps) (hn : xs.length ≤ 1048576) (hm : ys.length ≤ 1048576) (lp : ps.length ≤ 1048576) :
    Calls Try.prog 43 #[.agg #[.slice A xs.length c, .slice B ys.length e], .slice P ps.length cp] w (RetIB w (highR xs ys ps) (procOk xs ys ps)) := by
  obtain ⟨r1, q1⟩ : ∃ r, (good xs ys && isProc xs.length ps) = r := ⟨_, rfl⟩
  cases r1
  case false =>
    have hO : procOk xs ys ps = false := by unfold procOk ; simp [q1]
    have hV_highR := highR_no hO
    rw [hV_highR]
    rw [hO]
    clear hO hV_highR
    have HG1 := Lib.hid (fun W (h : IntS W A xs) (k : IntS W B ys) (zp : IntS W P ps) => l3Good_any A B P c e cp xs ys ps W h k zp _hx _hy hn hm lp)
    rw [q1] at HG1
    clear q1 _hx _hy _bp
    go_enter Try.func43, Try.ntmps43
    go_wp2_with fail
    refine (HG1.out _ ((h.alloc _).alloc _) ((k.alloc _).alloc _) ((zp.alloc _).alloc _)).mono ?_
    rintro e1 w1 ⟨rfl, hb⟩
    have hx0 : w1.cell? ⟨w.heap.size, 0, none⟩ = some (.slice A xs.length c) := keep_cell hb (by simp)
    have hx1 : w1.cell? ⟨w.heap.size, 1, none⟩ = some (.slice B ys.length e) := keep_cell hb (by simp)
    have hown := own_below (own_empty _ (w.heap.size + 1) (w.heap.size + 1) (by simp) (by simp)) hb
    have hw : Below w.heap.size w w1 := below_alloc (below_alloc (hb))
    clear hb
    obtain ⟨A', c', hv, hO⟩ := own_form (xs := []) hown
    cases hv
    clear hown
    go_wp2
    go_ret2
    exact ⟨_, _, rfl, hO.mono (by omega), hw⟩
  case true =>
    have hO : procOk xs ys ps = true := by unfold procOk ; simp [q1]
    have hV_highR := highR_yes hO
    rw [hV_highR]
    rw [hO]
    clear hO hV_highR
    have HG1 := Lib.hid (fun W (h : IntS W A xs) (k : IntS W B ys) (zp : IntS W P ps) => l3Good_any A B P c e cp xs ys ps W h k zp _hx _hy hn hm lp)
    rw [q1] at HG1
    have hgl := good_len (Bool.and_eq_true_iff.1 q1).1
    have hU := good_upL (Bool.and_eq_true_iff.1 q1).1
    have hp := isProc_iff (Bool.and_eq_true_iff.1 q1).2
    have HW := Lib.hid (fun W (h : IntS W A xs) (x : Nat) (hx : x < xs.length) => l2Way_any (Bool.and_eq_true_iff.1 q1).1 A B c ys.length e x W h hx)
    have HE := Lib.hid (fun W (h : IntS W A xs) => l2Ends_any A B c ys.length e xs W h (by omega) (good_iff.1 (Bool.and_eq_true_iff.1 q1).1).2.1 (good_root (Bool.and_eq_true_iff.1 q1).1))
    have HM : Hid (∀ y, y < xs.length → (wayL xs y).length ≤ 24 ∧ ∀ j, j < (wayL xs y).length → ∃ q : Nat, nth (wayL xs y) j = q ∧ q < xs.length) := fun y hy => ⟨by have := way_len xs y; omega, fun j hj => by obtain ⟨q, h1, h2⟩ := way_mem hU hy hj; exact ⟨q, h1, by omega⟩⟩
    have HEM : Hid (∀ j, j < (endsL xs).length → ∃ y : Nat, nth (endsL xs) j = y ∧ y < xs.length) := fun j hj => by obtain ⟨y, h1, h2, _⟩ := ends_mem hj; exact ⟨y, h1, h2⟩
    have HB := Lib.hid hp.2
    have hel := ends_len xs
    have hep := ends_pos (Bool.and_eq_true_iff.1 q1).1
    obtain ⟨n, e1⟩ : ∃ n, xs.length = n := ⟨_, rfl⟩
    have e2 : ys.length = n := by rw [hgl.2.2]; exact e1
    have e3 : ps.length = n := by rw [hp.1]; exact e1
    clear hp hU
    simp only [e1, e2, e3] at HG1 HW HE HM HEM hn hm lp hgl hel ⊢
    have HN := Lib.hid e1.symm
    have HP := Lib.hid e3.symm
    obtain ⟨hgl1, hgl2, _⟩ := hgl
    clear e1 e2 e3
    unfold highL
    have HF : Hid (∀ y : Nat, highE xs ps y = maxW ps (wayL xs y) (wayL xs y).length) := fun y => rfl
    generalize highE xs ps = f at *
    have HMS := Lib.hid (fun i (h : i < (endsL xs).length) => mapI_succ f (endsL xs) h)
    have HML := Lib.hid (fun i (h : i ≤ (endsL xs).length) => mapI_len f (endsL xs) h)
    generalize endsL xs = E at *
    clear q1 _hx _hy _bp
    go_enter Try.func43, Try.ntmps43
    go_wp2_with fail
    refine (HG1.out _ ((h.alloc _).alloc _) ((k.alloc _).alloc _) ((zp.alloc _).alloc _)).mono ?_
    rintro e1 w1 ⟨rfl, hb⟩
    have hx0 : w1.cell? ⟨w.heap.size, 0, none⟩ = some (.slice A n c) := keep_cell hb (by simp)
    have hx1 : w1.cell? ⟨w.heap.size, 1, none⟩ = some (.slice B n e) := keep_cell hb (by simp)
    have hown := own_below (own_empty _ (w.heap.size + 1) (w.heap.size + 1) (by simp) (by simp)) hb
    have hw : Below w.heap.size w w1 := below_alloc (below_alloc (hb))
    clear hb
    clear HG1
    obtain ⟨i0, hi, hz0, hz1, hz2⟩ := info_parts info_int
    have hs1 := (hown.lt (w.heap.size + 1) rfl).2
    have hn0 : 0 < n := by omega
    go_wp2_with fail
    refine (HE.out _ (h.below hw)).mono ?_
    rintro e1 w2 ⟨A1, c1, rfl, ho, hb2⟩
    replace hx0 := keep_cell hb2 hx0
    replace hx1 := keep_cell hb2 hx1
    replace hown := own_below hown hb2
    replace hw := keep_below hb2 hw
    clear hb2
    obtain ⟨gE, rfl, hgE, hE⟩ := ho.pos hep
    have hgE' : w.heap.size + 1 < gE := by omega
    clear ho HE hgE hs1
    go_wp2
    go_loopw [6, 8] (fun v i wr => ∃ j : Nat, j ≤ E.length ∧ i = .int .i64 j ∧ wr.ownsRow (w.heap.size + 1) 3 1 v (mapI f E j).length (i64s (mapI f E j)) ∧ v.ownBlock ≠ some gE ∧ Row wr gE E ∧ wr.cell? ⟨w.heap.size, 0, none⟩ = some (.slice A n c) ∧ wr.cell? ⟨w.heap.size, 1, none⟩ = some (.slice B n e) ∧ Below w.heap.size w wr) (fun _ i _ => E.length - (intOf i).toNat)
    case atStart => exact ⟨0, by omega, rfl, hown, by simp [Value.ownBlock]; omega, hE, hx0, hx1, hw⟩
    case round =>
      clear hown hE hx0 hx1 hw
      obtain ⟨j, hj, rfl, hown, hne, hE, hx0, hx1, hw⟩ := hrel
      by_cases hlt : j < E.length
      · obtain ⟨y, hy, hyn⟩ := HEM.out j hlt
        have hcE := hE.cell hlt
        rw [hy] at hcE
        have hlt' : (j : Int) < E.length := by omega
        have hms := HMS.out j hlt
        rw [hy, HF.out] at hms
        obtain ⟨hwl, hwm⟩ := HM.out y hyn
        have HWM := Lib.hid hwm
        have HWY := Lib.hid (fun W (h : IntS W A xs) => HW.out W h y hyn)
        have HMJ := Lib.hid (HML.out j hj)
        have HMS' := Lib.hid hms
        clear hy hms hwm
        generalize wayL xs y = K at *
        go_wp2
        go_still_tail 5, (by kernel_rfl)
        change wpList _ _ _ _ _ wr.drew
        go_wp2_with fail
        refine (HWY.out _ (h.below hw).drew).mono ?_
        rintro e1 w2 ⟨A2, c2, rfl, ho2, hb2⟩
        replace hb2 : Below wr.heap.size wr w2 := ⟨hb2.os, hb2.tape, hb2.output, hb2.size, hb2.block⟩
        replace hown := own_below hown hb2
        replace hE := hE.below hb2
        replace hx0 := keep_cell hb2 hx0
        replace hx1 := keep_cell hb2 hx1
        replace hw := keep_below hb2 hw
        have hI := ho2.ints
        clear hb2 ho2
        obtain ⟨b3, o3, rfl, hc0⟩ := (zp.below hw).at_ (j := 0) (by rw [← HP.out]; omega)
        rw [Nat.add_zero] at hc0
        go_wp2
        go_loop [10, 11] (fun mv kv => ∃ q : Nat, q ≤ K.length ∧ kv = .int .i64 q ∧ mv = .int .i64 (maxW ps K q)) (fun _ kv => K.length - (intOf kv).toNat)
        case atStart => exact ⟨0, by omega, rfl, rfl⟩
        case round =>
          obtain ⟨q, hq, rfl, rfl⟩ := hrel
          by_cases hlq : q < K.length
          · obtain ⟨b2, o2, rfl, hcK⟩ := hI.at_ hlq
            obtain ⟨z, hz, hzn⟩ := HWM.out q hlq
            rw [hz] at hcK
            obtain ⟨b4, o4, hbo, hcz⟩ := (zp.below hw).at_ (j := z) (by rw [← HP.out]; exact hzn)
            cases hbo
            have HMX : Hid (maxW ps K (q + 1) = max (maxW ps K q) (nth ps z)) := by show max _ _ = _; rw [hz]; rfl
            clear hz
            generalize nth ps z = a at *
            generalize maxW ps K q = b at *
            go_wp2_with (go_at_call 72; refine (l1Most_any _ _ _).mono ?_; rintro e w' ⟨rfl, rfl⟩)
            go_round
            case rel => exact ⟨q + 1, by omega, by go_num, by rw [HMX.out]⟩
            case measure => simp [intOf]; omega
          · have hqe : q = K.length := by omega
            subst hqe
            generalize maxW ps K K.length = v at *
            have hlm := HMJ.out
            have HPX : Hid (i64s (mapI f E (j + 1)) = i64s (mapI f E j) ++ [Value.int .i64 v] ∧ (mapI f E (j + 1)).length = (mapI f E j).length + 1) := by rw [HMS'.out]; exact ⟨i64s_app _ _, by simp⟩
            have hlen : (mapI f E j).length ≤ 24 := by rw [hlm]; omega
            clear hlm
            generalize mapI f E j = L at *
            have hlx := World.block_lt_of_cell? _ _ hx0
            replace hlx : w.heap.size < w2.heap.size := hlx
            go_wp2_with (at_builtin; (refine wpList_append_own_at _ rfl _ _ 22 rfl (w.heap.size + 1) 3 i0 (.int .i64 0) 1 8 Try.underlying22 hi hz0 hz1 hz2 rfl (by decide) _ _ _ rfl (hown.alloc _) ⟨w2.heap.size, 0, none⟩ 1 1 [.int .i64 (v)] rfl rfl (cell_one_new _ _ _) (by simp [Value.oneCell']) (by unfold maxLen; omega) (by omega) (by simp; omega) ?_); intro v' w1 hown1 hgrow _ hat)
            have hrow1 := (hE.alloc (.cells #[.int .i64 v] 3)).grown hgrow (fun e => hne e.symm)
            have hxx0 := grown_cell hgrow (p := ⟨w.heap.size, 0, none⟩) (by rw [World.cell?_alloc_lt _ _ _ hlx]; exact hx0) (own_ne (g := w.heap.size) hown (by omega))
            have hxx1 := grown_cell hgrow (p := ⟨w.heap.size, 1, none⟩) (by rw [World.cell?_alloc_lt _ _ _ hlx]; exact hx1) (own_ne (g := w.heap.size) hown (by omega))
            have hb3 : Below w.heap.size w w1 := Below.grown (hw.alloc hw.size _) hgrow (by simp; omega) (fun g hg => by have := (hown.lt g hg).1; omega)
            have hgl := hE.lt
            have hne1 : v'.ownBlock ≠ some gE := by
              rcases hat with e | e
              · rw [e]; exact hne
              · rw [e]; simp; omega
            rw [← HPX.out.1, ← HPX.out.2] at hown1
            clear hown hgrow hE hw HPX hx0 hx1 hne hat hI
            go_wp2
            go_roundw
            case rel => exact ⟨j + 1, by omega, by go_num, hown1, hne1, hrow1, hxx0, hxx1, hb3⟩
            case measure => simp only [intOf]; omega
      · have hkn : j = E.length := by omega
        rw [hkn] at hown
        obtain ⟨A', c', rfl, hO⟩ := own_form hown
        clear hkn hown
        go_wp2
        go_ret2
        exact ⟨A', c', rfl, hO.mono (by omega), hw⟩
set_option maxHeartbeats 1000000 in
set_option maxRecDepth 100000 in
theorem implHighestOf_any (A B : Option Addr) (c e : Nat) (xs ys : List Int) (P : Option Addr) (cp : Nat) (ps : List Int) (w : World) (h : IntS w A xs) (k : IntS w B ys) (zp : IntS w P ps) (_hx : Bd xs) (_hy : Bd ys) (_bp : Bd ps) (hn : xs.length ≤ 1048576) (hm : ys.length ≤ 1048576) (lp : ps.length ≤ 1048576) :
    Calls Try.prog 44 #[.agg #[.slice A xs.length c, .slice B ys.length e], .slice P ps.length cp] w (RetIB w (highR xs ys ps) (procOk xs ys ps)) := by
  obtain ⟨r1, q1⟩ : ∃ r, (good xs ys) = r := ⟨_, rfl⟩
  cases r1
  case false =>
    have hO : procOk xs ys ps = false := by unfold procOk ; simp [q1]
    have hV_highR := highR_no hO
    rw [hV_highR]
    rw [hO]
    clear hO hV_highR
    have HG1 := Lib.hid (fun W (h : IntS W A xs) (k : IntS W B ys) => isTree_any A B c e xs ys W h k _hx _hy hn hm)
    rw [q1] at HG1
    clear q1 _hx _hy _bp
    go_enter Try.func44, Try.ntmps44
    go_wp2_with fail
    refine (HG1.out _ (h.alloc _) (k.alloc _)).mono ?_
    rintro e1 w1 ⟨rfl, hb⟩
    have hx0 : w1.cell? ⟨w.heap.size, 0, none⟩ = some (.slice A xs.length c) := keep_cell hb (by simp)
    have hx1 : w1.cell? ⟨w.heap.size, 1, none⟩ = some (.slice B ys.length e) := keep_cell hb (by simp)
    have hw : Below w.heap.size w w1 := below_alloc (hb)
    clear hb
    go_wp2
    go_ret2
    exact ⟨none, 0, rfl, .inl ⟨rfl, rfl⟩, hw⟩
  case true =>
    obtain ⟨r2, q2⟩ : ∃ r, (isProc xs.length ps) = r := ⟨_, rfl⟩
    cases r2
    case false =>
      have hO : procOk xs ys ps = false := by unfold procOk ; simp [q1, q2]
      have hV_highR := highR_no hO
      rw [hV_highR]
      rw [hO]
      clear hO hV_highR
      have HG1 := Lib.hid (fun W (h : IntS W A xs) (k : IntS W B ys) => isTree_any A B c e xs ys W h k _hx _hy hn hm)
      rw [q1] at HG1
      have HG2 := Lib.hid (fun W (zp : IntS W P ps) => isProcess_any A B P c ys.length e cp xs.length ps W zp lp hn)
      rw [q2] at HG2
      clear q1 q2 _hx _hy _bp
      go_enter Try.func44, Try.ntmps44
      go_wp2_with fail
      refine (HG1.out _ (h.alloc _) (k.alloc _)).mono ?_
      rintro e1 w1 ⟨rfl, hb⟩
      have hx0 : w1.cell? ⟨w.heap.size, 0, none⟩ = some (.slice A xs.length c) := keep_cell hb (by simp)
      have hx1 : w1.cell? ⟨w.heap.size, 1, none⟩ = some (.slice B ys.length e) := keep_cell hb (by simp)
      have hw : Below w.heap.size w w1 := below_alloc (hb)
      clear hb
      go_wp2_with fail
      refine (HG2.out _ (zp.below hw)).mono ?_
      rintro e1 w2 ⟨rfl, hb⟩
      replace hx0 := keep_cell hb hx0
      replace hx1 := keep_cell hb hx1
      replace hw := keep_below hb hw
      clear hb
      go_wp2
      go_ret2
      exact ⟨none, 0, rfl, .inl ⟨rfl, rfl⟩, hw⟩
    case true =>
      have hO : procOk xs ys ps = true := by unfold procOk ; simp [q1, q2]
      have hV_highR := highR_yes hO
      rw [hV_highR]
      rw [hO]
      clear hO hV_highR
      have HG1 := Lib.hid (fun W (h : IntS W A xs) (k : IntS W B ys) => isTree_any A B c e xs ys W h k _hx _hy hn hm)
      rw [q1] at HG1
      have HG2 := Lib.hid (fun W (zp : IntS W P ps) => isProcess_any A B P c ys.length e cp xs.length ps W zp lp hn)
      rw [q2] at HG2
      have hgl := good_len q1
      have hU := good_upL q1
      have hp := isProc_iff q2
      have HW := Lib.hid (fun W (h : IntS W A xs) (x : Nat) (hx : x < xs.length) => way_any q1 A B c ys.length e x W h hx)
      have HE := Lib.hid (fun W (h : IntS W A xs) => ends_any A B c ys.length e xs W h (by omega) (good_iff.1 q1).2.1 (good_root q1))
      have HM : Hid (∀ y, y < xs.length → (wayL xs y).length ≤ 24 ∧ ∀ j, j < (wayL xs y).length → ∃ q : Nat, nth (wayL xs y) j = q ∧ q < xs.length) := fun y hy => ⟨by have := way_len xs y; omega, fun j hj => by obtain ⟨q, h1, h2⟩ := way_mem hU hy hj; exact ⟨q, h1, by omega⟩⟩
      have HEM : Hid (∀ j, j < (endsL xs).length → ∃ y : Nat, nth (endsL xs) j = y ∧ y < xs.length) := fun j hj => by obtain ⟨y, h1, h2, _⟩ := ends_mem hj; exact ⟨y, h1, h2⟩
      have HB := Lib.hid hp.2
      have hel := ends_len xs
      have hep := ends_pos q1
      obtain ⟨n, e1⟩ : ∃ n, xs.length = n := ⟨_, rfl⟩
      have e2 : ys.length = n := by rw [hgl.2.2]; exact e1
      have e3 : ps.length = n := by rw [hp.1]; exact e1
      clear hp hU
      simp only [e1, e2, e3] at HG1 HG2 HW HE HM HEM hn hm lp hgl hel ⊢
      have HN := Lib.hid e1.symm
      have HP := Lib.hid e3.symm
      obtain ⟨hgl1, hgl2, _⟩ := hgl
      clear e1 e2 e3
      unfold highL
      have HF : Hid (∀ y : Nat, highE xs ps y = maxW ps (wayL xs y) (wayL xs y).length) := fun y => rfl
      generalize highE xs ps = f at *
      have HMS := Lib.hid (fun i (h : i < (endsL xs).length) => mapI_succ f (endsL xs) h)
      have HML := Lib.hid (fun i (h : i ≤ (endsL xs).length) => mapI_len f (endsL xs) h)
      generalize endsL xs = E at *
      clear q1 q2 _hx _hy _bp
      go_enter Try.func44, Try.ntmps44
      go_wp2_with fail
      refine (HG1.out _ (h.alloc _) (k.alloc _)).mono ?_
      rintro e1 w1 ⟨rfl, hb⟩
      have hx0 : w1.cell? ⟨w.heap.size, 0, none⟩ = some (.slice A n c) := keep_cell hb (by simp)
      have hx1 : w1.cell? ⟨w.heap.size, 1, none⟩ = some (.slice B n e) := keep_cell hb (by simp)
      have hw : Below w.heap.size w w1 := below_alloc (hb)
      clear hb
      go_wp2_with fail
      refine (HG2.out _ (zp.below hw)).mono ?_
      rintro e1 w2 ⟨rfl, hb⟩
      replace hx0 := keep_cell hb hx0
      replace hx1 := keep_cell hb hx1
      replace hw := keep_below hb hw
      clear hb
      clear HG1 HG2
      obtain ⟨i0, hi, hz0, hz1, hz2⟩ := info_parts info_int
      have hsW := World.block_lt_of_cell? _ _ hx0
      replace hsW : w.heap.size < w2.heap.size := hsW
      have hown := own_empty w2 (w.heap.size + 1) w2.heap.size rfl hsW
      have hn0 : 0 < n := by omega
      go_wp2_with fail
      refine (HE.out _ ((h.below hw).alloc _)).mono ?_
      rintro e1 w9 ⟨A1, c1, rfl, ho, hb2⟩
      replace hx0 : w9.cell? ⟨w.heap.size, 0, none⟩ = some (.slice A n c) := keep_cell hb2 (by rw [World.cell?_alloc_lt _ _ _ hsW]; exact hx0)
      replace hx1 : w9.cell? ⟨w.heap.size, 1, none⟩ = some (.slice B n e) := keep_cell hb2 (by rw [World.cell?_alloc_lt _ _ _ hsW]; exact hx1)
      replace hown := own_below hown hb2
      replace hw := keep_below hb2 (keep_below_alloc hw _)
      clear hb2
      obtain ⟨gE, rfl, hgE, hE⟩ := ho.pos hep
      have hgE' : w2.heap.size < gE := by simp at hgE; omega
      clear ho HE hgE
      go_wp2
      go_loopw [6, 25] (fun v i wr => ∃ j : Nat, j ≤ E.length ∧ i = .int .i64 j ∧ wr.ownsRow (w.heap.size + 1) 3 1 v (mapI f E j).length (i64s (mapI f E j)) ∧ v.ownBlock ≠ some gE ∧ Row wr gE E ∧ wr.cell? ⟨w.heap.size, 0, none⟩ = some (.slice A n c) ∧ wr.cell? ⟨w.heap.size, 1, none⟩ = some (.slice B n e) ∧ Below w.heap.size w wr) (fun _ i _ => E.length - (intOf i).toNat)
      case atStart => exact ⟨0, by omega, rfl, hown, by simp [Value.ownBlock]; omega, hE, hx0, hx1, hw⟩
      case round =>
        clear hown hE hx0 hx1 hw
        obtain ⟨j, hj, rfl, hown, hne, hE, hx0, hx1, hw⟩ := hrel
        by_cases hlt : j < E.length
        · obtain ⟨y, hy, hyn⟩ := HEM.out j hlt
          have hcE := hE.cell hlt
          rw [hy] at hcE
          have hlt' : (j : Int) < E.length := by omega
          have hms := HMS.out j hlt
          rw [hy, HF.out] at hms
          obtain ⟨hwl, hwm⟩ := HM.out y hyn
          have HWM := Lib.hid hwm
          have HWY := Lib.hid (fun W (h : IntS W A xs) => HW.out W h y hyn)
          have HMJ := Lib.hid (HML.out j hj)
          have HMS' := Lib.hid hms
          clear hy hms hwm
          generalize wayL xs y = K at *
          obtain ⟨b3, o3, rfl, hc0⟩ := (zp.below hw).at_ (j := 0) (by rw [← HP.out]; omega)
          rw [Nat.add_zero] at hc0
          go_wp2_with fail
          refine (HWY.out _ (h.below hw)).mono ?_
          rintro e1 w2 ⟨A2, c2, rfl, ho2, hb2⟩
          replace hown := own_below hown hb2
          replace hE := hE.below hb2
          replace hx0 := keep_cell hb2 hx0
          replace hx1 := keep_cell hb2 hx1
          replace hw := keep_below hb2 hw
          have hI := ho2.ints
          clear hb2 ho2 hc0
          go_wp2
          go_loop [9, 36] (fun mv kv => ∃ q : Nat, q ≤ K.length ∧ kv = .int .i64 q ∧ mv = .int .i64 (maxW ps K q)) (fun _ kv => K.length - (intOf kv).toNat)
          case atStart => exact ⟨0, by omega, rfl, rfl⟩
          case round =>
            obtain ⟨q, hq, rfl, rfl⟩ := hrel
            by_cases hlq : q < K.length
            · obtain ⟨b2, o2, rfl, hcK⟩ := hI.at_ hlq
              obtain ⟨z, hz, hzn⟩ := HWM.out q hlq
              rw [hz] at hcK
              obtain ⟨b4, o4, hbo, hcz⟩ := (zp.below hw).at_ (j := z) (by rw [← HP.out]; exact hzn)
              cases hbo
              have HMX : Hid (maxW ps K (q + 1) = max (maxW ps K q) (nth ps z)) := by show max _ _ = _; rw [hz]; rfl
              clear hz
              generalize nth ps z = a at *
              generalize maxW ps K q = b at *
              go_wp2
              go_round
              case rel => exact ⟨q + 1, by omega, by go_num, by rw [HMX.out, ite_max]⟩
              case measure => simp [intOf]; omega
            · have hqe : q = K.length := by omega
              subst hqe
              generalize maxW ps K K.length = v at *
              have hlm := HMJ.out
              have HPX : Hid (i64s (mapI f E (j + 1)) = i64s (mapI f E j) ++ [Value.int .i64 v] ∧ (mapI f E (j + 1)).length = (mapI f E j).length + 1) := by rw [HMS'.out]; exact ⟨i64s_app _ _, by simp⟩
              have hlen : (mapI f E j).length ≤ 24 := by rw [hlm]; omega
              clear hlm
              generalize mapI f E j = L at *
              have hlx := World.block_lt_of_cell? _ _ hx0
              replace hlx : w.heap.size < w2.heap.size := hlx
              go_wp2_with (at_builtin; (refine wpList_append_own_at _ rfl _ _ 22 rfl (w.heap.size + 1) 3 i0 (.int .i64 0) 1 8 Try.underlying22 hi hz0 hz1 hz2 rfl (by decide) _ _ _ rfl (hown.alloc _) ⟨w2.heap.size, 0, none⟩ 1 1 [.int .i64 (v)] rfl rfl (cell_one_new _ _ _) (by simp [Value.oneCell']) (by unfold maxLen; omega) (by omega) (by simp; omega) ?_); intro v' w1 hown1 hgrow _ hat)
              have hrow1 := (hE.alloc (.cells #[.int .i64 v] 3)).grown hgrow (fun e => hne e.symm)
              have hxx0 := grown_cell hgrow (p := ⟨w.heap.size, 0, none⟩) (by rw [World.cell?_alloc_lt _ _ _ hlx]; exact hx0) (own_ne (g := w.heap.size) hown (by omega))
              have hxx1 := grown_cell hgrow (p := ⟨w.heap.size, 1, none⟩) (by rw [World.cell?_alloc_lt _ _ _ hlx]; exact hx1) (own_ne (g := w.heap.size) hown (by omega))
              have hb3 : Below w.heap.size w w1 := Below.grown (hw.alloc hw.size _) hgrow (by simp; omega) (fun g hg => by have := (hown.lt g hg).1; omega)
              have hgl := hE.lt
              have hne1 : v'.ownBlock ≠ some gE := by
                rcases hat with e | e
                · rw [e]; exact hne
                · rw [e]; simp; omega
              rw [← HPX.out.1, ← HPX.out.2] at hown1
              clear hown hgrow hE hw HPX hx0 hx1 hne hat hI
              go_wp2
              go_roundw
              case rel => exact ⟨j + 1, by omega, by go_num, hown1, hne1, hrow1, hxx0, hxx1, hb3⟩
              case measure => simp only [intOf]; omega
        · have hkn : j = E.length := by omega
          rw [hkn] at hown
          obtain ⟨A', c', rfl, hO⟩ := own_form hown
          clear hkn hown
          go_wp2
          go_ret2
          exact ⟨A', c', rfl, hO.mono (by omega), hw⟩
end Go.Proofs.Ytkghljcahbkfdaa
