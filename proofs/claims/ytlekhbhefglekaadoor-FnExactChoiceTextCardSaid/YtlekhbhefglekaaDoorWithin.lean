/- impl.areWithin and its function literal; impl.size. -/
import Derived.Test.YtlekhbhefglekaaDoorIdxFunc
import Derived.Test.YtlekhbhefglekaaDoorIn
namespace Go.Proofs.YtlekhbhefglekaaDoor
set_option linter.unusedVariables false
set_option linter.unusedSimpArgs false
open Go.ChangeShapes Go.WideShapes Go.ChangeAt Go.RowKit

/-- are all numbers between lo and hi? -/
def allIn (zs : List Int) (lo hi : Int) : Bool := zs.all fun z => inB z lo hi
theorem allIn_anyAt (zs : List Int) (lo hi : Int) : anyAt (fun k => !inB (zs.getD k 0) lo hi) zs.length = !allIn zs lo hi := by
  rw [Bool.eq_iff_iff]
  rw [anyAt_true]
  simp only [allIn, Bool.not_eq_true', List.all_eq_false, Bool.not_eq_true]
  constructor
  · rintro ⟨k, hk, h⟩
    exact ⟨zs[k], List.getElem_mem hk, by simpa [List.getD_eq_getElem?_getD, hk] using h⟩
  · rintro ⟨z, hz, h⟩
    obtain ⟨k, hk, rfl⟩ := List.getElem_of_mem hz
    exact ⟨k, hk, by simpa [List.getD_eq_getElem?_getD, hk] using h⟩

theorem sizeRows_any (ao : Option Addr) (n c : Nat) (w : World) (hn : n ≤ 9223372036854775807) :
    Calls Tryd.prog 28 #[.slice ao n c] w fun e w' => e = .returned (.int .i64 n) ∧ w' = w := by
  go_enter Tryd.func28, Tryd.ntmps28
  go_wp2
  go_ret
  exact ⟨rfl, rfl⟩



end Go.Proofs.YtlekhbhefglekaaDoor
