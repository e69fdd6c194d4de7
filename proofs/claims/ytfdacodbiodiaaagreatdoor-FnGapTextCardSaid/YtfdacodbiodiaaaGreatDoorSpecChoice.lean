/- l04Choices, ValidChoice, of the reference. -/
import Derived.Test.YtfdacodbiodiaaaGreatDoorRises
import Derived.Test.YtfdacodbiodiaaaGreatDoorCube
import Derived.Test.YtfdacodbiodiaaaGreatDoorSpecPart
namespace Go.Proofs.YtfdacodbiodiaaaGreatDoor
set_option linter.unusedVariables false
set_option linter.unusedSimpArgs false
open Go.ChangeShapes Go.WideShapes Go.ChangeAt Go.RowKit

/-- are all lists sets of states? -/
def setsB (st : Int) (zss : List (List Int)) : Bool := zss.all fun s => risesB s 0 (st - 1)
def rowsC (st : Int) (xsss : List (List (List Int))) : Bool := xsss.all fun r => decide ((r.length : Int) = st) && setsB st r
def validC (st : Int) (xsss : List (List (List Int))) : Bool := inB st 1 10 && (inB xsss.length 1 3 && rowsC st xsss)

theorem setsB_take (st : Int) (xss : List (List Int)) (k : Nat) (h : k < xss.length) : setsB st (xss.take (k + 1)) = (setsB st (xss.take k) && risesB (xss.getD k []) 0 (st - 1)) := by
  unfold setsB
  rw [List.take_succ_eq_append_getElem h, List.all_append]
  simp [List.getD_eq_getElem?_getD, h]
theorem setsB_no {st : Int} {xss : List (List Int)} {k : Nat} (h : k < xss.length) (hb : risesB (xss.getD k []) 0 (st - 1) = false) : setsB st xss = false := by
  unfold setsB
  rw [List.all_eq_false]
  refine ⟨xss[k], List.getElem_mem h, ?_⟩
  simp only [List.getD_eq_getElem?_getD, List.getElem?_eq_getElem h, Option.getD_some] at hb
  rw [hb]
  simp
theorem rowsC_take (st : Int) (xss : List (List (List Int))) (k : Nat) (h : k < xss.length) : rowsC st (xss.take (k + 1)) = (rowsC st (xss.take k) && (decide (((xss.getD k []).length : Int) = st) && setsB st (xss.getD k []))) := by
  unfold rowsC
  rw [List.take_succ_eq_append_getElem h, List.all_append]
  simp [List.getD_eq_getElem?_getD, h]
theorem rowsC_no {st : Int} {xss : List (List (List Int))} {k : Nat} (h : k < xss.length) (hb : (decide (((xss.getD k []).length : Int) = st) && setsB st (xss.getD k [])) = false) : rowsC st xss = false := by
  unfold rowsC
  rw [List.all_eq_false]
  refine ⟨xss[k], List.getElem_mem h, ?_⟩
  simp only [List.getD_eq_getElem?_getD, List.getElem?_eq_getElem h, Option.getD_some] at hb
  rw [hb]
  simp



end Go.Proofs.YtfdacodbiodiaaaGreatDoor
