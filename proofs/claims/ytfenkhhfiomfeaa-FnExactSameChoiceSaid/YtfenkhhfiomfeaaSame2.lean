/- SameAutomaton, SamePartial, SameRoads, of the program and of the reference. One contract each. -/
import Derived.Test.YtfenkhhfiomfeaaSame1
namespace Go.Proofs.Ytfenkhhfiomfeaa
set_option linter.unusedVariables false
set_option linter.unusedSimpArgs false
open Go.ChangeShapes Go.WideShapes Go.ChangeAt Go.RowKit
















end Go.Proofs.Ytfenkhhfiomfeaa
