/- Plain laws: the number that a text is, if it is the decimal text of a number within bounds. -/
import Derived.Lib.AtoiTie
import Derived.Lib.ItoaLen
import Derived.Test.YtgccidkkfalaeaaGreatDoorMgTr2
namespace Go.Proofs.YtgccidkkfalaeaaGreatDoor

def isNum (l : List UInt8) (n : Int) : Prop := -999999 ≤ n ∧ n ≤ 999999 ∧ Lib.itoa n = l
theorem decFrom_app (l : List UInt8) (b : UInt8) : ∀ acc, Lib.decFrom acc (l ++ [b]) = (Lib.decFrom acc l).bind fun n => (Lib.digitVal b).map fun d => n * 10 + d := by
  induction l with
  | nil =>
    intro acc
    simp only [List.nil_append, Lib.decFrom]
    cases Lib.digitVal b <;> rfl
  | cons a l ih =>
    intro acc
    simp only [List.cons_append, Lib.decFrom]
    cases Lib.digitVal a with
    | none => rfl
    | some d => exact ih _
theorem digitVal_dgt (d : Nat) (h : d < 10) : Lib.digitVal (UInt8.ofNat (48 + d)) = some d := by
  have e : (UInt8.ofNat (48 + d)).toNat = 48 + d := by simp; omega
  unfold Lib.digitVal
  rw [e, if_pos (by omega)]
  congr 1; omega
theorem decDigits_geP {u : Nat} (h : ¬ u < 10) : Lib.decDigits u = Lib.decDigits (u / 10) ++ [UInt8.ofNat (48 + u % 10)] := by
  conv => lhs; rw [Lib.decDigits, dif_neg h]
theorem decFrom_digits : ∀ u : Nat, Lib.decFrom 0 (Lib.decDigits u) = some u := by
  intro u
  induction u using Nat.strongRecOn with
  | ind u ih =>
    by_cases h : u < 10
    · rw [Lib.decDigits_one h]
      simp only [Lib.decFrom, digitVal_dgt u h]
      simp
    · rw [decDigits_geP h, decFrom_app, ih (u / 10) (by omega), digitVal_dgt _ (by omega)]
      simp; omega
theorem decDigits_pos : ∀ u : Nat, 1 ≤ (Lib.decDigits u).length := by
  intro u
  by_cases h : u < 10
  · rw [Lib.decDigits_one h]; simp
  · rw [decDigits_geP h]; simp
theorem decDigits_pow : ∀ (k u : Nat), u < 10 ^ (k + 1) → (Lib.decDigits u).length ≤ k + 1 := by
  intro k
  induction k with
  | zero => intro u h; rw [Lib.decDigits_one (by omega)]; simp
  | succ k ih =>
    intro u h
    by_cases hu : u < 10
    · rw [Lib.decDigits_one hu]; simp
    · rw [decDigits_geP hu]
      have e : 10 ^ (k + 1 + 1) = 10 * 10 ^ (k + 1) := by rw [Nat.pow_succ, Nat.mul_comm]
      have := ih (u / 10) (by omega)
      simp; omega
theorem decDigits_len6 (u : Nat) (h : u ≤ 999999) : (Lib.decDigits u).length ≤ 6 := decDigits_pow 5 u (by omega)
/-- The first byte of a number's digits is a digit. -/
theorem decDigits_head (u : Nat) : ∃ b r, Lib.decDigits u = b :: r ∧ b ≠ 45 ∧ b ≠ 43 := by
  have h := decFrom_digits u
  have hp := decDigits_pos u
  cases hd : Lib.decDigits u with
  | nil => rw [hd] at hp; simp at hp
  | cons b r =>
    rw [hd] at h
    obtain ⟨d, hb⟩ := Lib.digit_of_decFrom _ _ _ h 0 b rfl
    have h3 := (Lib.digitVal_eq hb).1
    refine ⟨b, r, rfl, ?_, ?_⟩ <;> (intro e; rw [e] at h3; exact absurd h3 (by decide))
theorem isNum_cases {l : List UInt8} {m : Int} (h : isNum l m) : ∃ u : Nat, u ≤ 999999 ∧ ((m = -(u : Int) ∧ l = 45 :: Lib.decDigits u) ∨ (m = u ∧ l = Lib.decDigits u)) := by
  obtain ⟨h0, h1, h2⟩ := h
  by_cases hm : m < 0
  · obtain ⟨u, rfl⟩ : ∃ u : Nat, m = -(u : Int) := ⟨m.natAbs, by omega⟩
    exact ⟨u, by omega, .inl ⟨rfl, by rw [← h2, Lib.itoa_neg u (by omega)]⟩⟩
  · obtain ⟨u, rfl⟩ : ∃ u : Nat, m = (u : Int) := ⟨m.natAbs, by omega⟩
    exact ⟨u, by omega, .inr ⟨rfl, by rw [← h2, Lib.itoa_nonneg]⟩⟩
theorem isNum_atoi {l : List UInt8} {m : Int} (h : isNum l m) : Lib.atoi l = some m ∧ 1 ≤ l.length ∧ l.length ≤ 7 := by
  obtain ⟨u, hu, ⟨rfl, rfl⟩ | ⟨rfl, rfl⟩⟩ := isNum_cases h
  · have h1 := decDigits_pos u
    have h2 := decDigits_len6 u hu
    refine ⟨?_, by simp, by simp; omega⟩
    have hd : Lib.decNat (Lib.decDigits u) = some u := by
      unfold Lib.decNat
      rw [if_neg (by intro e; rw [List.isEmpty_iff] at e; rw [e] at h1; simp at h1)]
      exact decFrom_digits u
    unfold Lib.atoi
    dsimp only
    rw [if_pos (by decide), hd]; rfl
  · have h1 := decDigits_pos u
    have h2 := decDigits_len6 u hu
    refine ⟨?_, h1, by omega⟩
    have hd : Lib.decNat (Lib.decDigits u) = some u := by
      unfold Lib.decNat
      rw [if_neg (by intro e; rw [List.isEmpty_iff] at e; rw [e] at h1; simp at h1)]
      exact decFrom_digits u
    obtain ⟨b, r, e, hb1, hb2⟩ := decDigits_head u
    rw [e] at hd ⊢
    unfold Lib.atoi
    dsimp only
    rw [if_neg (by simpa using hb1), if_neg (by simpa using hb2), hd]; rfl
open Classical in
/-- The number of a text, if there is one. -/
noncomputable def rdL (l : List UInt8) : Option Int := if h : ∃ n, isNum l n then some h.choose else none
theorem rdL_some {l : List UInt8} {n : Int} (h : isNum l n) : rdL l = some n := by
  have hx : ∃ n, isNum l n := ⟨n, h⟩
  unfold rdL
  rw [dif_pos hx]
  have h1 := (isNum_atoi hx.choose_spec).1
  have h2 := (isNum_atoi h).1
  rw [h1] at h2; exact h2
theorem rdL_none {l : List UInt8} (h : ∀ n, ¬ isNum l n) : rdL l = none := by
  unfold rdL; rw [dif_neg fun ⟨n, hn⟩ => h n hn]
theorem rdL_isNum {l : List UInt8} {n : Int} (h : rdL l = some n) : isNum l n := by
  unfold rdL at h
  split at h
  · rename_i hx; cases h; exact hx.choose_spec
  · cases h
theorem itoa_isNum {n : Int} (h0 : -999999 ≤ n) (h1 : n ≤ 999999) : isNum (Lib.itoa n) n := ⟨h0, h1, rfl⟩
theorem rd_neg {r : List UInt8} {m : Int} (h : isNum (45 :: r) m) : ∃ u : Nat, m = -(u : Int) ∧ Lib.decFrom 0 r = some u ∧ 1 ≤ r.length ∧ r.length ≤ 6 := by
  obtain ⟨u, hu, ⟨rfl, e⟩ | ⟨rfl, e⟩⟩ := isNum_cases h
  · injection e with _ e
    exact ⟨u, rfl, by rw [e]; exact decFrom_digits u, by rw [e]; exact decDigits_pos u, by rw [e]; exact decDigits_len6 u hu⟩
  · obtain ⟨b, r', e', hb, _⟩ := decDigits_head u
    rw [e'] at e; injection e with e _
    exact absurd e.symm hb
theorem rd_pos {l : List UInt8} (hl : ¬ (1 < l.length ∧ l[0]? = some 45)) {m : Int} (h : isNum l m) : ∃ u : Nat, m = (u : Int) ∧ Lib.decFrom 0 l = some u ∧ 1 ≤ l.length ∧ l.length ≤ 6 := by
  obtain ⟨u, hu, ⟨rfl, e⟩ | ⟨rfl, e⟩⟩ := isNum_cases h
  · exact absurd ⟨by rw [e]; have := decDigits_pos u; simp; omega, by rw [e]; rfl⟩ hl
  · exact ⟨u, rfl, by rw [e]; exact decFrom_digits u, by rw [e]; exact decDigits_pos u, by rw [e]; exact decDigits_len6 u hu⟩
theorem decFrom_bd {l : List UInt8} {n : Nat} (h : Lib.decFrom 0 l = some n) (hl : l.length ≤ 6) : n ≤ 999999 := by
  have h1 := Lib.decFrom_lt l 0 n h
  have h2 : 10 ^ l.length ≤ 10 ^ 6 := Nat.pow_le_pow_right (by omega) hl
  omega
end Go.Proofs.YtgccidkkfalaeaaGreatDoor
