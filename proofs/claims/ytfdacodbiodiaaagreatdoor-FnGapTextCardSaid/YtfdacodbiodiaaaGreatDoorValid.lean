/- ValidAutomaton, of the program. -/
import Derived.Test.YtfdacodbiodiaaaGreatDoorWithin
import Derived.Deep.RegionHeld3
namespace Go.Proofs.YtfdacodbiodiaaaGreatDoor
set_option linter.unusedVariables false
set_option linter.unusedSimpArgs false
open Go.ChangeShapes Go.WideShapes Go.ChangeAt Go.RowKit



/-- is an automaton valid? -/
def rowsB (st : Int) (xss : List (List Int)) : Bool := xss.all fun r => decide ((r.length : Int) = st) && allIn r 0 (st - 1)
def validB (st : Int) (xss : List (List Int)) : Bool := inB st 1 10 && (inB xss.length 1 3 && rowsB st xss)

theorem rowsB_anyAt (st : Int) (xss : List (List Int)) : anyAt (fun k => decide (((xss.getD k []).length : Int) ≠ st) || !allIn (xss.getD k []) 0 (st - 1)) xss.length = !rowsB st xss := by
  rw [Bool.eq_iff_iff]
  rw [anyAt_true]
  simp only [rowsB, Bool.not_eq_true', List.all_eq_false, Bool.not_eq_true]
  constructor
  · rintro ⟨k, hk, h⟩
    refine ⟨xss[k], List.getElem_mem hk, ?_⟩
    simp only [List.getD_eq_getElem?_getD, List.getElem?_eq_getElem hk, Option.getD_some] at h
    rw [Bool.and_eq_false_iff]
    rw [Bool.or_eq_true] at h
    rcases h with h | h
    · left; simpa using h
    · right; simpa using h
  · rintro ⟨z, hz, h⟩
    obtain ⟨k, hk, rfl⟩ := List.getElem_of_mem hz
    refine ⟨k, hk, ?_⟩
    simp only [List.getD_eq_getElem?_getD, List.getElem?_eq_getElem hk, Option.getD_some]
    rw [Bool.and_eq_false_iff] at h
    rw [Bool.or_eq_true]
    rcases h with h | h
    · left; simpa using h
    · right; simpa using h


end Go.Proofs.YtfdacodbiodiaaaGreatDoor
