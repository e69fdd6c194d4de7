/- The library's variables at a law's first world: what the row lists, and the world's shape. -/
import Derived.Test.YtfdacodbiodiaaaDoorStrIn
import Derived.Test.YtfdacodbiodiaaaDoorRows
import Derived.Stop.LaidErr
import Derived.MakeChecks
namespace Go.Proofs.YtfdacodbiodiaaaDoor
set_option linter.unusedVariables false
set_option linter.unusedSimpArgs false
open Go.ChangeShapes Go.WideShapes Go.ChangeAt Go.RowKit Go.Shelf

theorem err_row : ∀ (u : TypeId), Tryd.prog.typeName? 3 u = some ("*" ++ "errors.errorString") → u = 134 :=
  fun u h => typeName_ptr_named (nm := "errors.errorString") (by kernel_rfl) (by kernel_rfl) (by decide) u h
theorem env_of {W : World} {l : List (String × DataW Unit)} (hl : l = Rows.fnExactReadPartialRow.laid) (hL : laidMetH Tryd.prog l W) (hsh : W.ShapedOpen Tryd.prog) : Env W := by
  subst hl
  have hL2 : laidMet Tryd.prog Rows.fnExactReadPartialRow.laid W := by
    rw [← MakeChecks.laidMetH_plain _ _ _ (by kernel_rfl)]
    exact hL
  have h4 := hL2.tail.tail.tail.tail
  obtain ⟨a1, s1, hv1, _, _, _⟩ := laid_sentinel h4 (show Tryd.prog.globalNamed _ = some 1 by kernel_rfl) (show (Tryd.prog.globals[1]?).map (·.type) = some 55 by kernel_rfl) Tryd.underlying55 err_row Tryd.underlying134 Tryd.underlying136 rfl rfl Tryd.underlying9 (by kernel_rfl) (by kernel_rfl)
  obtain ⟨a2, s2, hv2, _, _, _⟩ := laid_sentinel h4.tail (show Tryd.prog.globalNamed _ = some 0 by kernel_rfl) (show (Tryd.prog.globals[0]?).map (·.type) = some 55 by kernel_rfl) Tryd.underlying55 err_row Tryd.underlying134 Tryd.underlying136 rfl rfl Tryd.underlying9 (by kernel_rfl) (by kernel_rfl)
  have c1 := World.var?_cell (show Tryd.prog.globalNamed _ = some 1 by kernel_rfl) hv1 0
  have c2 := World.var?_cell (show Tryd.prog.globalNamed _ = some 0 by kernel_rfl) hv2 0
  refine ⟨Tryd.laysM146.s1_3 W hsh, ⟨_, _, by simpa using c2⟩, ⟨_, _, by simpa using c1⟩⟩
end Go.Proofs.YtfdacodbiodiaaaDoor
