/- l04Size, l04Ok, ValidPartial, of the reference. -/
import Derived.Test.YtlekhbhefglekaaDoorSpecOk
import Derived.Test.YtlekhbhefglekaaDoorValidPart
namespace Go.Proofs.YtlekhbhefglekaaDoor
set_option linter.unusedVariables false
set_option linter.unusedSimpArgs false
open Go.ChangeShapes Go.WideShapes Go.ChangeAt Go.RowKit

theorem l04Size_any (n : Int) (k : Nat) (w : World) :
    Calls Tryd.prog 20 #[.int .i64 n, .int .i64 k] w fun e w' => e = .returned (.bool (inB n 1 10 && inB k 1 3)) ∧ w' = w := by
  have HC := Lib.hid (l00In_any n 1 10 w)
  have HC2 := Lib.hid (l00In_any k 1 3 w)
  cases hA : inB n 1 10
  · rw [hA] at HC
    rw [Bool.false_and]
    clear hA
    go_enter Tryd.func20, Tryd.ntmps20
    go_wp2_with fail
    refine HC.out.mono ?_
    rintro e w2 ⟨rfl, rfl⟩
    go_wp2
    go_ret
    exact ⟨rfl, rfl⟩
  · rw [hA] at HC
    rw [Bool.true_and]
    generalize inB k 1 3 = b at HC2
    clear hA
    go_enter Tryd.func20, Tryd.ntmps20
    go_wp2_with fail
    refine HC.out.mono ?_
    rintro e w2 ⟨rfl, rfl⟩
    go_wp2_with fail
    refine HC2.out.mono ?_
    rintro e w2 ⟨rfl, rfl⟩
    go_wp2
    go_ret
    exact ⟨rfl, rfl⟩

theorem rowsP_take (st : Int) (xss : List (List Int)) (k : Nat) (h : k < xss.length) : rowsP st (xss.take (k + 1)) = (rowsP st (xss.take k) && (decide (((xss.getD k []).length : Int) = st) && allIn (xss.getD k []) (-1) (st - 1))) := by
  unfold rowsP
  rw [List.take_succ_eq_append_getElem h, List.all_append]
  simp [List.getD_eq_getElem?_getD, h]
theorem rowsP_no {st : Int} {xss : List (List Int)} {k : Nat} (h : k < xss.length) (hb : (decide (((xss.getD k []).length : Int) = st) && allIn (xss.getD k []) (-1) (st - 1)) = false) : rowsP st xss = false := by
  unfold rowsP
  rw [List.all_eq_false]
  refine ⟨xss[k], List.getElem_mem h, ?_⟩
  simp only [List.getD_eq_getElem?_getD, List.getElem?_eq_getElem h, Option.getD_some] at hb
  rw [hb]
  simp



end Go.Proofs.YtlekhbhefglekaaDoor
