/- FnExactChecksum: the program's Checksum and the reference's return the same, for every string. No condition. -/
import Derived.Test.YtfpokpgkkjibfaaBase
namespace Go.Proofs.Ytfpokpgkkjibfaa
open Go.ChangeShapes Go.WideShapes Go.ChangeAt Go.RowKit
open Go.ChangeMaps (open_string shut_string)

def csum (l : List UInt8) : Int := l.foldl (fun h c => (41 * h + (c.toNat : Int) + 1) % 999979) 7
theorem csum_bd (l : List UInt8) : 0 ≤ csum l ∧ csum l < 999979 := by
  unfold csum
  suffices h : ∀ a : Int, 0 ≤ a → a < 999979 → 0 ≤ l.foldl (fun h c => (41 * h + (c.toNat : Int) + 1) % 999979) a ∧ l.foldl (fun h c => (41 * h + (c.toNat : Int) + 1) % 999979) a < 999979 from h 7 (by omega) (by omega)
  induction l with
  | nil => intro a h0 h1; exact ⟨h0, h1⟩
  | cons c l ih => intro a h0 h1; exact ih _ (by dsimp only; omega) (by dsimp only; omega)
theorem take_snoc (s : ByteArray) (k : Nat) (h : k < s.size) : s.data.toList.take (k + 1) = s.data.toList.take k ++ [s[k]] := by
  rw [List.take_succ_eq_append_getElem (by simpa using h)]; rfl
theorem csum_snoc (l : List UInt8) (c : UInt8) : csum (l ++ [c]) = (41 * csum l + (c.toNat : Int) + 1) % 999979 := by
  unfold csum; rw [List.foldl_append]; rfl

def ckV (s : ByteArray) : Value := if s.size ≤ 4000 then .tuple #[.int .i64 (csum s.data.toList), .bool true] else .tuple #[.int .i64 0, .bool false]

namespace fnExactChecksum
end fnExactChecksum
end Go.Proofs.Ytfpokpgkkjibfaa
