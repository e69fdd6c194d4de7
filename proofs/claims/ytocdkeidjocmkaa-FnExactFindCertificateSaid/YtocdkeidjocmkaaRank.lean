/- Ranks: the least number of states of the sets of a tour. -/
import Derived.Test.YtocdkeidjocmkaaShortest
namespace Go.Proofs.Ytocdkeidjocmkaa
set_option linter.unusedVariables false
set_option linter.unusedSimpArgs false
open Go.ChangeShapes Go.WideShapes Go.ChangeAt Go.RowKit

def card (f : Nat) : Nat := (setTo f 10).length
def leastTo (T : Tour) (k : Nat) : Nat := (List.range k).foldl (fun o i => min o (card (T.at i).1)) (card (T.at 0).1)
theorem leastTo_zero (T : Tour) : leastTo T 0 = card (T.at 0).1 := rfl
theorem leastTo_succ (T : Tour) (k : Nat) : leastTo T (k + 1) = min (leastTo T k) (card (T.at k).1) := by simp [leastTo, List.range_succ, List.foldl_append]
theorem card_le (f : Nat) : card f ≤ 10 := setTo_le f 10
theorem leastTo_le (T : Tour) (k : Nat) : leastTo T k ≤ 10 := by
  induction k with
  | zero => rw [leastTo_zero]; exact card_le _
  | succ k ih => rw [leastTo_succ]; omega
def rankT (T : Tour) : Nat := leastTo T T.length




theorem minI (a b : Nat) : (if (b : Int) < (a : Int) then (b : Int) else (a : Int)) = ((min a b : Nat) : Int) := by split <;> omega


theorem outerT_zero (rows : List (List Int)) (f : Nat) : ∀ i, (outerT rows f i).at 0 = (f, []) := by
  intro i
  induction i with
  | zero => rfl
  | succ i ih =>
    rw [outerT_succ]
    unfold roundT
    split
    · rw [innerT_at _ _ _ _ (outerT_pos rows f i), ih]
    · exact ih
theorem tourOf_zero (rows : List (List Int)) (f : Nat) : (tourOf rows f).at 0 = (f, []) := outerT_zero rows f 1024

theorem field_tour0 (a b : Value) : ∀ w, Sem.run Try.prog (Instr.field 141 (.agg #[a, b]) 0) w = .ok a w := fun _ => by kernel_rfl


theorem held3_start {w0 W : World} {a b : Addr} {x y : Value} (h : Below w0.heap.size w0 W) (hx : W.cell? a = some x) (hy : W.cell? b = some y) : Below w0.heap.size w0 W.drew ∧ W.drew.cell? a = some x ∧ W.drew.cell? b = some y := ⟨h.drew, hx, hy⟩
theorem held3_next {w0 W W' : World} {a b o q : Nat} {x y : Value} (h : Below w0.heap.size w0 W ∧ W.cell? ⟨a, o, none⟩ = some x ∧ W.cell? ⟨b, q, none⟩ = some y) (hb : Below W.heap.size W W') : Below w0.heap.size w0 W' ∧ W'.cell? ⟨a, o, none⟩ = some x ∧ W'.cell? ⟨b, q, none⟩ = some y := ⟨below_trans h.1 hb, below_cell hb h.2.1, below_cell hb h.2.2⟩


def rkOf (st : Int) (xss : List (List Int)) : Nat := if validB st xss = true then rankT (allTour st xss) else 0
def rkCd (st : Int) (xss : List (List Int)) : Int := if validB st xss = true then 0 else 1



end Go.Proofs.Ytocdkeidjocmkaa
