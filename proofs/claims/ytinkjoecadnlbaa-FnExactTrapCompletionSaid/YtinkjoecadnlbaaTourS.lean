/- l02From of the reference: the lists of the sets, of the places before them, of the letters. -/
import Derived.Test.YtinkjoecadnlbaaBits
import Derived.Test.YtinkjoecadnlbaaSpecOk
import Derived.Test.YtinkjoecadnlbaaStep
import Derived.Deep.Cut
namespace Go.Proofs.Ytinkjoecadnlbaa
set_option linter.unusedVariables false
set_option linter.unusedSimpArgs false
open Go.ChangeShapes Go.WideShapes Go.ChangeAt Go.RowKit

theorem size1_i : ∀ w, (sizeOf 3).run Try.prog w = .ok 1 w := fun _ => by kernel_rfl
theorem size1_b : ∀ w, (sizeOf 4).run Try.prog w = .ok 1 w := fun _ => by kernel_rfl
theorem info_b : (Try.prog.info? 4).map (fun i => (i.zero, i.size, i.bytes)) = some (some (.bool false), 1, 1) := by kernel_rfl

/-- places and letters tell the words -/
structure BackOk (T : Tour) (bs ls : List Int) : Prop where
  blen : bs.length = T.length
  llen : ls.length = T.length
  pos : 0 < T.length
  root : bs.getD 0 0 = -1 ∧ (T.at 0).2 = []
  step : ∀ k, 0 < k → k < T.length → ∃ j : Nat, j < k ∧ bs.getD k 0 = (j : Int) ∧ (T.at k).2 = (T.at j).2 ++ [ls.getD k 0]
theorem BackOk.start (f : Nat) : BackOk [(f, [])] [-1] [0] := ⟨rfl, rfl, by simp, ⟨rfl, rfl⟩, fun k h1 h2 => by simp at h2; omega⟩
theorem BackOk.push {T : Tour} {bs ls : List Int} (h : BackOk T bs ls) {i : Nat} (hi : i < T.length) (s : Nat) (x : Int) : BackOk (T ++ [(s, (T.at i).2 ++ [x])]) (bs ++ [(i : Int)]) (ls ++ [x]) := by
  have at_old : ∀ k, k < T.length → Tour.at (T ++ [(s, (T.at i).2 ++ [x])]) k = T.at k := fun k hk => by simp [Tour.at, List.getD_eq_getElem?_getD, List.getElem?_append_left hk]
  have at_new : Tour.at (T ++ [(s, (T.at i).2 ++ [x])]) T.length = (s, (T.at i).2 ++ [x]) := by simp [Tour.at, List.getD_eq_getElem?_getD]
  have hb : ∀ k, k < T.length → (bs ++ [(i : Int)]).getD k 0 = bs.getD k 0 := fun k hk => by simp [List.getD_eq_getElem?_getD, List.getElem?_append_left (show k < bs.length by rw [h.blen]; exact hk)]
  have hl : ∀ k, k < T.length → (ls ++ [x]).getD k 0 = ls.getD k 0 := fun k hk => by simp [List.getD_eq_getElem?_getD, List.getElem?_append_left (show k < ls.length by rw [h.llen]; exact hk)]
  have hb2 : (bs ++ [(i : Int)]).getD T.length 0 = i := by rw [← h.blen]; simp [List.getD_eq_getElem?_getD]
  have hl2 : (ls ++ [x]).getD T.length 0 = x := by rw [← h.llen]; simp [List.getD_eq_getElem?_getD]
  refine ⟨by simp [h.blen], by simp [h.llen], by simp, ?_, ?_⟩
  · rw [hb 0 h.pos, at_old 0 h.pos]; exact h.root
  · intro k h1 h2
    rw [List.length_append, List.length_singleton] at h2
    by_cases hk : k < T.length
    · obtain ⟨j, h3, h4, h5⟩ := h.step k h1 hk
      exact ⟨j, h3, by rw [hb k hk]; exact h4, by rw [at_old k hk, at_old j (by omega), hl k hk]; exact h5⟩
    · have e : k = T.length := by omega
      subst e
      exact ⟨i, hi, hb2, by rw [at_new, at_old i hi, hl2]⟩

/-- sets as ints -/
def itVals (ss : List Nat) : List Value := ss.map fun (s : Nat) => Value.int .i64 (s : Int)
theorem itVals_len (ss : List Nat) : (itVals ss).length = ss.length := by simp [itVals]
theorem itVals_snoc (ss : List Nat) (s : Nat) : itVals ss ++ [.int .i64 (s : Int)] = itVals (ss ++ [s]) := by simp [itVals]
theorem itVals_get {ss : List Nat} {i : Nat} (h : i < ss.length) : (itVals ss)[i]? = some (.int .i64 (ss.getD i 0 : Int)) := by simp [itVals, List.getD_eq_getElem?_getD, h]
/-- which sets are there -/
def seenVals (m : Nat) (ss : List Nat) : List Value := (List.range m).map fun j => Value.bool (decide (j ∈ ss))
theorem seenVals_len (m : Nat) (ss : List Nat) : (seenVals m ss).length = m := by simp [seenVals]
theorem seenVals_get {m j : Nat} (ss : List Nat) (h : j < m) : (seenVals m ss)[j]? = some (.bool (decide (j ∈ ss))) := by simp [seenVals, h]
theorem seenVals_set {m s : Nat} (ss : List Nat) (h : s < m) : (seenVals m ss).set s (.bool true) = seenVals m (ss ++ [s]) := by
  refine List.ext_getElem (by simp [seenVals]) fun j h1 h2 => ?_
  have hj : j < m := by simpa [seenVals] using h2
  rw [List.getElem_set]
  simp only [seenVals, List.getElem_map, List.getElem_range, List.mem_append, List.mem_singleton]
  by_cases e : s = j
  · subst e; simp
  · rw [if_neg e]
    have : ¬ j = s := fun h => e h.symm
    simp [this]
theorem Tour.sets_len' (T : Tour) : T.sets.length = T.length := by simp [Tour.sets]
theorem Tour.sets_at' {T : Tour} {i : Nat} (h : i < T.length) : T.sets.getD i 0 = (T.at i).1 := by simp [Tour.sets, Tour.at, List.getD_eq_getElem?_getD, h]

/-- a walk of the reference at block tb -/

theorem _root_.Go.RowKit.Below.of_grown_none {w w' : World} (h : w.grownBy w' none) : Below w.heap.size w w' := ⟨h.os, h.tape, h.output, h.size, fun k hk => h.block k hk (by simp)⟩


section
variable {W w w5 : World} {lo tb sb m : Nat} {s b l v u : Value} {S B L N : List Value}
end

theorem map_snoc_int (zs : List Int) (z : Int) : (zs ++ [z]).map (Value.int .i64) = zs.map (Value.int .i64) ++ [.int .i64 z] := by simp
theorem made_false (m : Nat) : (madeCells (Value.cells (.bool false)) (m * 1)).toList = seenVals m [] := by
  show (madeCells #[Value.bool false] (m * 1)).toList = _
  rw [toList_madeCells_one]
  unfold seenVals
  refine List.ext_getElem (by simp) fun j h1 h2 => ?_
  simp
theorem seen_false {w : World} {lo g m f : Nat} (h : w.ownsRow lo 4 1 (.slice (some ⟨g, 0, none⟩) m m) m (madeCells (Value.cells (.bool false)) (m * 1)).toList) (hf : f < m) : w.cell? ⟨g, f, none⟩ = some (.bool false) := by
  rw [made_false] at h
  rw [h.cellAt f (by omega), seenVals_get _ hf]
  simp


end Go.Proofs.Ytinkjoecadnlbaa
