/- Plain laws: a sealed text is read back, and no text with one byte changed is a sealed one. -/
import Derived.Test.YtfpokpgkkjibfaaDoorVerify
import Derived.Test.YtfpokpgkkjibfaaDoorReadP
namespace Go.Proofs.YtfpokpgkkjibfaaDoor

theorem decDigits_byte (u : Nat) {b : UInt8} (h : b ∈ Lib.decDigits u) : 48 ≤ b.toNat ∧ b.toNat ≤ 57 := by
  obtain ⟨j, hj⟩ := List.getElem?_of_mem h
  obtain ⟨d, hb⟩ := Lib.digit_of_decFrom _ _ _ (decFrom_digits u) j b hj
  unfold Lib.digitVal at hb
  split at hb
  · assumption
  · cases hb
theorem itoa_no (n : Int) (hn : 0 ≤ n) {c : UInt8} (hc : c.toNat < 48) : c ∉ Lib.itoa n := by
  obtain ⟨u, rfl⟩ := Int.eq_ofNat_of_zero_le hn
  rw [Lib.itoa_nonneg]
  intro h
  have := (decDigits_byte u h).1
  omega
theorem itoa_inj {m n : Int} (hm : 0 ≤ m) (hn : 0 ≤ n) (h : Lib.itoa m = Lib.itoa n) : m = n := by
  obtain ⟨u, rfl⟩ := Int.eq_ofNat_of_zero_le hm
  obtain ⟨v, rfl⟩ := Int.eq_ofNat_of_zero_le hn
  rw [Lib.itoa_nonneg, Lib.itoa_nonneg] at h
  have h1 := decFrom_digits u
  rw [h, decFrom_digits v] at h1
  cases h1; rfl
theorem csum_tail (r : List UInt8) : ∀ a b : Int, 0 ≤ a → a < 999979 → 0 ≤ b → b < 999979 → r.foldl (fun h c => (41 * h + (c.toNat : Int) + 1) % 999979) a = r.foldl (fun h c => (41 * h + (c.toNat : Int) + 1) % 999979) b → a = b := by
  induction r with
  | nil => intro a b _ _ _ _ h; exact h
  | cons c r ih =>
    intro a b ha0 ha1 hb0 hb1 h
    rw [List.foldl_cons, List.foldl_cons] at h
    have := ih ((41 * a + (c.toNat : Int) + 1) % 999979) ((41 * b + (c.toNat : Int) + 1) % 999979) (by omega) (by omega) (by omega) (by omega) h
    omega
theorem csum_one (p r : List UInt8) (x y : UInt8) (h : csum (p ++ x :: r) = csum (p ++ y :: r)) : x = y := by
  unfold csum at h
  rw [List.foldl_append, List.foldl_append, List.foldl_cons, List.foldl_cons] at h
  have hx := x.toNat_lt
  have hy := y.toNat_lt
  have := csum_tail r _ _ (by omega) (by omega) (by omega) (by omega) h
  exact UInt8.toNat_inj.1 (by omega)
def sealL (l : List UInt8) : List UInt8 := l ++ 35 :: Lib.itoa (csum l)
theorem sealB_list (s : ByteArray) : (sealB s).data.toList = sealL s.data.toList := by
  unfold sealB sealL itoaB
  simp
theorem seal_changed {x P R : List UInt8} {a v : UInt8} (h35 : (35 : UInt8) ∉ x) (hy : sealL x = P ++ a :: R) (hv : v ≠ a) : sealL (headL 35 (P ++ v :: R)) ≠ P ++ v :: R := by
  intro e
  have hc := csum_bd x
  have hT : (35 : UInt8) ∉ Lib.itoa (csum x) := itoa_no _ hc.1 (by decide)
  have hc' := csum_bd (headL 35 (P ++ v :: R))
  have hT' : (35 : UInt8) ∉ Lib.itoa (csum (headL 35 (P ++ v :: R))) := itoa_no _ hc'.1 (by decide)
  have hmid : ∀ T : List UInt8, (35 : UInt8) ∉ T → v ≠ 35 → sealL (headL 35 (x ++ v :: T)) ≠ x ++ v :: T := by
    intro T hT hv e
    have h1 : (35 : UInt8) ∈ x ++ v :: T := by rw [← e]; unfold sealL; simp
    rw [List.mem_append, List.mem_cons] at h1
    rcases h1 with h1 | h1 | h1
    · exact h35 h1
    · exact hv h1.symm
    · exact hT h1
  unfold sealL at hy
  rcases List.append_eq_append_iff.1 hy with ⟨q, h1, h2⟩ | ⟨q, h1, h2⟩
  · -- P = x ++ q, 35 :: T = q ++ a :: R
    cases q with
    | nil =>
      simp only [List.append_nil, List.nil_append] at h1 h2
      injection h2 with h2 h3
      subst h1 h2 h3
      exact hmid _ hT hv e
    | cons b q =>
      rw [List.cons_append] at h2
      injection h2 with h2 h3
      subst h1 h2
      rw [List.append_assoc, List.cons_append, head_app h35] at e
      unfold sealL at e
      rw [h3] at e
      have e1 := List.append_cancel_left e
      injection e1 with _ e1
      have e2 := List.append_cancel_left e1
      injection e2 with e2 _
      exact hv e2.symm
  · -- x = P ++ q, a :: R = q ++ 35 :: T
    cases q with
    | nil =>
      simp only [List.append_nil, List.nil_append] at h1 h2
      injection h2 with h2 h3
      subst h1 h2 h3
      exact hmid _ hT hv e
    | cons b q =>
      rw [List.cons_append] at h2
      injection h2 with h2 h3
      subst h2 h3
      have hP : (35 : UInt8) ∉ P := fun h => h35 (by rw [h1]; simp [h])
      have hq : (35 : UInt8) ∉ q := fun h => h35 (by rw [h1]; simp [h])
      by_cases hv5 : v = 35
      · subst hv5
        rw [head_app hP] at e hT'
        unfold sealL at e
        have e1 := List.append_cancel_left e
        injection e1 with _ e1
        exact hT' (by rw [e1]; simp)
      · have hd : headL 35 (P ++ v :: (q ++ 35 :: Lib.itoa (csum x))) = P ++ v :: q := by
          have := head_app (c := 35) (l := P ++ v :: q) (by simp [hP, hq, Ne.symm hv5]) (Lib.itoa (csum x))
          simpa using this
        rw [hd] at e hc'
        unfold sealL at e
        have e' : (P ++ v :: q) ++ 35 :: Lib.itoa (csum (P ++ v :: q)) = (P ++ v :: q) ++ 35 :: Lib.itoa (csum x) := by rw [e]; simp
        have e1 := List.append_cancel_left e'
        injection e1 with _ e1
        have e2 := itoa_inj hc'.1 hc.1 e1
        rw [h1] at e2
        exact hv (csum_one P q v a e2)
theorem vf_seal {x : ByteArray} (h : apOk x) : vfOk (sealB x) ∧ headB (sealB x) = x := by
  have e : headB (sealB x) = x := by
    unfold headB
    rw [sealB_list]
    unfold sealL
    rw [head_app h.2.1]
    exact ba_ext (by rw [mkB_list])
  exact ⟨⟨h.2.2, by rw [e]⟩, e⟩
theorem vf_changed {x s : ByteArray} (h : apOk x) {P R : List UInt8} {a v : UInt8} (e : (sealB x).data.toList = P ++ a :: R) (hv : v ≠ a) (e' : s.data.toList = P ++ v :: R) : ¬ vfOk s := by
  rintro ⟨_, hs⟩
  rw [sealB_list] at e
  refine seal_changed h.2.1 e hv ?_
  have h2 : (sealB (headB s)).data.toList = s.data.toList := by rw [hs]
  rw [sealB_list, e'] at h2
  unfold headB at h2
  rw [mkB_list, e'] at h2
  exact h2
theorem rd_fmt {n : Int} (h0 : -999999 ≤ n) (h1 : n ≤ 999999) : rdL (Lib.itoa n) = some n := rdL_some (itoa_isNum h0 h1)
/-- A byte and the same with some bits turned differ. -/
theorem xor_ne : ∀ a m : UInt8, m ≠ 0 → a ^^^ m ≠ a := by
  intro a m hm e
  apply hm
  have : a ^^^ (a ^^^ m) = a ^^^ a := by rw [e]
  rw [← UInt8.xor_assoc, UInt8.xor_self, UInt8.zero_xor] at this
  exact this
end Go.Proofs.YtfpokpgkkjibfaaDoor
