/- From what a law's argument is known by to Rows3. -/
import Derived.Test.YtocdkeidjocmkaaOpen
import Derived.Test.YtocdkeidjocmkaaCube
namespace Go.Proofs.Ytocdkeidjocmkaa
set_option linter.unusedVariables false
set_option linter.unusedSimpArgs false
open Go.ChangeShapes Go.WideShapes Go.ChangeAt Go.RowKit Go.Deep

variable {H : Type} {enc : TypeId × Value → H} {P : Program} {w : World} {base : Nat} {held : Bool}

theorem cube_of_trod {t e q s : TypeId} {fuel : Nat} {v : Value} {x : DataW H × List MemPlace} (ht : P.underlying t = some (.slice e)) (he : P.underlying e = some (.slice q)) (hq : P.underlying q = some (.slice s)) (hs : P.underlying s = some (.int .i64))
    (ce : P.cellsOf e = 1) (cq : P.cellsOf q = 1) (cs : P.cellsOf s = 1) (h : DataW.trod enc P w base (fun _ => true) held fuel t [v] = some x) : ∃ zsss, Rows3 w v zsss := by
  rcases open_slice1 ht ce h with ⟨hcs, _⟩ | ⟨a, len, cap, m, n, V, D, Pl, hcs, _, hl, hm, hmm, _, hx⟩
  · simp at hcs
    subst hcs
    exact ⟨[], [], ⟨none, 0, 0, 0, rfl, by simp, by simp, by simp⟩, rfl, by simp⟩
  · simp at hcs
    subst hcs
    simp only [if_true] at hmm
    subst hmm
    obtain ⟨Z, hZ⟩ := choose_lt (α := List (List Int)) (n := len) (p := fun r zss => Rows2 w (V r) zss) (fun r hr => rows_of_trod he hq hs cq cs (hx r (by omega)).2)
    refine ⟨(List.range len).map Z, (List.range len).map V, sl_of_cells (by simp) (by omega) fun i hi => ?_, by simp, fun k hk => ?_⟩
    · rw [(hx i (by omega)).1]
      simp [List.getD_eq_getElem?_getD, hi]
    · have hk' : k < len := by simpa using hk
      rw [show ((List.range len).map V).getD k undef = V k by simp [List.getD_eq_getElem?_getD, hk']]
      rw [show ((List.range len).map Z).getD k [] = Z k by simp [List.getD_eq_getElem?_getD, hk']]
      exact hZ k hk'

end Go.Proofs.Ytocdkeidjocmkaa
