/- The reference's l1Split: the parts of a text. -/
import Derived.Test.YtfpokpgkkjibfaaStrM
import Derived.Test.YtfpokpgkkjibfaaFnExactChecksum
namespace Go.Proofs.Ytfpokpgkkjibfaa
open Go.ChangeShapes Go.WideShapes Go.ChangeAt Go.RowKit
open Go.ChangeMaps (open_string shut_string)

theorem slice_str (s : ByteArray) (d k : Nat) (hd : d ≤ k) (hk : k ≤ s.size) (w : World) : (Instr.slice 9 (.string s) (some (.int .i64 (d : Int))) (some (.int .i64 (k : Int))) none).run Try.prog w = .ok (.string (mkB ((s.data.toList.take k).drop d))) w := by
  rw [run_slice_string w 9 _ .i64 .i64 (d : Int) (k : Int) Try.underlying9 (by omega) (by omega) (by omega)]
  have e : s.extract ((d : Int).toNat) ((k : Int).toNat) = mkB ((s.data.toList.take k).drop d) := by
    rw [Lib.extract_eq, List.drop_take]; simp [mkB]
  rw [e]
theorem slice_from (s : ByteArray) (d : Nat) (hd : d ≤ s.size) (w : World) : (Instr.slice 9 (.string s) (some (.int .i64 (d : Int))) none none).run Try.prog w = .ok (.string (mkB (s.data.toList.drop d))) w := by
  rw [run_slice_string_from_if w 9 _ .i64 (d : Int) Try.underlying9, if_pos (by omega)]
  have e : s.extract ((d : Int).toNat) s.size = mkB (s.data.toList.drop d) := ba_ext (by rw [Lib.extract_to_end, mkB_list]; simp)
  rw [e]
theorem drop_cons (s : ByteArray) (k : Nat) (h : k < s.size) : s.data.toList.drop k = s[k] :: s.data.toList.drop (k + 1) := by
  rw [List.drop_eq_getElem_cons (by simpa using h)]; rfl
theorem grown_below {B : Nat} {w wr w1 : World} {v : Value} {n size : Nat} {e : TypeId} {xs : List Value} {o : Obj} (hown : wr.ownsRow B e size v n xs) (hB : w.heap.size ≤ B) (hb : Below w.heap.size w wr) (hg : (wr.alloc o).grownBy w1 v.ownBlock) : Below w.heap.size w w1 :=
  Below.grown (hb.alloc (hb.size) o) hg (by have := hb.size; simp; omega) (fun g h => by have := (hown.lt g h).1; omega)

end Go.Proofs.Ytfpokpgkkjibfaa
