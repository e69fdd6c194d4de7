/- FnExactFindCertificate's walk: the two sides. -/
import Derived.Test.YtocdkeidjocmkaaFnExactFindCertificateP
import Derived.Test.YtocdkeidjocmkaaFnExactFindCertificateQ
namespace Go.Proofs.Ytocdkeidjocmkaa
open Go.ChangeShapes Go.WideShapes Go.ChangeAt Go.RowKit
theorem walk_FnExactFindCertificate (w : World) (st0 : Int) (v0 : Value) (x0 : List (List Int)) (h0 : Rows2 w v0 x0) :
    Calls Try.prog 4 #[.agg #[.int .i64 st0, v0]] w fun e w' => e = .returned (.bool true) ∧ Below w.heap.size w w' := by
  cases hs : fcSide st0 x0
  · exact walk_FnExactFindCertificateW w st0 v0 x0 h0 hs
  · exact walk_FnExactFindCertificateP w st0 v0 x0 h0 hs
end Go.Proofs.Ytocdkeidjocmkaa
