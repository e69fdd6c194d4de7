/- FnExactConstants' walk. -/
import Derived.Test.YtbelpdaolcjcmaaOwn
import Derived.Test.YtbelpdaolcjcmaaIn
namespace Go.Proofs.Ytbelpdaolcjcmaa
open Go.ChangeShapes Go.WideShapes Go.ChangeAt Go.RowKit
theorem walk_FnExactConstants (w : World) : Calls Try.prog 3 #[] w fun e w' => e = .returned (.bool true) ∧ Below w.heap.size w w' := by
  go_enter Try.func3, Try.ntmps3
  go_wp2
  go_ret
  exact ⟨rfl, Below.refl _ _⟩
end Go.Proofs.Ytbelpdaolcjcmaa
