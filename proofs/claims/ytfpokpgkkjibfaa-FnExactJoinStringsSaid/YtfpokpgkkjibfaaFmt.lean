/- FormatInt: what the reference's and the program's return. -/
import Derived.Test.YtfpokpgkkjibfaaNum
namespace Go.Proofs.Ytfpokpgkkjibfaa
open Go.ChangeShapes Go.WideShapes Go.ChangeAt Go.RowKit
open Go.ChangeMaps (open_string shut_string)

def itoaB (n : Int) : ByteArray := ⟨(Lib.itoa n).toArray⟩
def fmtV (n : Int) : Value := if -999999 ≤ n ∧ n ≤ 999999 then .tuple #[.string (itoaB n), .bool true] else .tuple #[.string ⟨#[]⟩, .bool false]
theorem drewN_below (w : World) (k : Nat) : Below w.heap.size w (w.drewN k) := Below.drewN' (Below.refl _ _) k

end Go.Proofs.Ytfpokpgkkjibfaa
