/- The laws' own helpers that make or write memory: toInt64S, toInt64SS, markInt64S, markInt64SS. One contract each. -/
import Derived.Test.YtfdacodbiodiaaaGreatDoorHelp1
import Derived.Test.YtfdacodbiodiaaaGreatDoorOwn
namespace Go.Proofs.YtfdacodbiodiaaaGreatDoor
set_option linter.unusedVariables false
set_option linter.unusedSimpArgs false
open Go.ChangeShapes Go.WideShapes Go.ChangeAt Go.RowKit

theorem info_int : (Tryz.prog.info? 2).map (fun i => (i.zero, i.size, i.bytes)) = some (some (.int .i64 0), 1, 8) := by kernel_rfl
theorem info_ints : (Tryz.prog.info? 45).map (fun i => (i.zero, i.size, i.bytes)) = some (some (.slice none 0 0), 1, 24) := by kernel_rfl





/-- it returns a new struct of a number and rows -/
def NewAuto (st : Int) (xss : List (List Int)) (w : World) (e : Ending) (w' : World) : Prop :=
  ∃ v rs, e = .returned (.agg #[.int .i64 st, v]) ∧ OwnRows w' w.heap.size v rs xss ∧ Below w.heap.size w w'


end Go.Proofs.YtfdacodbiodiaaaGreatDoor
