/- l01Map, l01Ok, ValidAutomaton, of the reference. -/
import Derived.Test.YtfdacodbiodiaaaGreatDoorValid
namespace Go.Proofs.YtfdacodbiodiaaaGreatDoor
set_option linter.unusedVariables false
set_option linter.unusedSimpArgs false
open Go.ChangeShapes Go.WideShapes Go.ChangeAt Go.RowKit

theorem allIn_take (zs : List Int) (k : Nat) (lo hi : Int) (h : k < zs.length) : allIn (zs.take (k + 1)) lo hi = (allIn (zs.take k) lo hi && inB (zs.getD k 0) lo hi) := by
  unfold allIn
  rw [List.take_succ_eq_append_getElem h, List.all_append]
  simp [List.getD_eq_getElem?_getD, h]
theorem allIn_no {zs : List Int} {k : Nat} {lo hi : Int} (h : k < zs.length) (hb : inB (zs.getD k 0) lo hi = false) : allIn zs lo hi = false := by
  unfold allIn
  rw [List.all_eq_false]
  exact ⟨zs[k], List.getElem_mem h, by simpa [List.getD_eq_getElem?_getD, h] using hb⟩

def mapB (zs : List Int) (st : Int) : Bool := allIn zs 0 (st - 1) && decide ((zs.length : Int) = st)


theorem rowsB_take (st : Int) (xss : List (List Int)) (k : Nat) (h : k < xss.length) : rowsB st (xss.take (k + 1)) = (rowsB st (xss.take k) && mapB (xss.getD k []) st) := by
  unfold rowsB
  rw [List.take_succ_eq_append_getElem h, List.all_append]
  simp [List.getD_eq_getElem?_getD, h, mapB, Bool.and_comm]
theorem rowsB_no {st : Int} {xss : List (List Int)} {k : Nat} (h : k < xss.length) (hb : mapB (xss.getD k []) st = false) : rowsB st xss = false := by
  unfold rowsB
  rw [List.all_eq_false]
  refine ⟨xss[k], List.getElem_mem h, ?_⟩
  simp only [List.getD_eq_getElem?_getD, List.getElem?_eq_getElem h, Option.getD_some, mapB] at hb
  rw [Bool.and_comm, hb]
  simp



end Go.Proofs.YtfdacodbiodiaaaGreatDoor
