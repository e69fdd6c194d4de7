/- The laws' own helpers that only read: eqInt64S, eqInt64SS, szInt64S, szInt64SS, heldInt64S, heldInt64SS. One contract each. -/
import Derived.Test.YtfdacodbiodiaaaGreatDoorRows
import Derived.Test.YtfdacodbiodiaaaGreatDoorBase
namespace Go.Proofs.YtfdacodbiodiaaaGreatDoor
set_option linter.unusedVariables false
set_option linter.unusedSimpArgs false
open Go.ChangeShapes Go.WideShapes Go.ChangeAt Go.RowKit

theorem size1_int : ∀ w, (sizeOf 2).run Tryz.prog w = .ok 1 w := fun _ => by kernel_rfl
theorem size1_ints : ∀ w, (sizeOf 45).run Tryz.prog w = .ok 1 w := fun _ => by kernel_rfl
theorem size1_rows : ∀ w, (sizeOf 24).run Tryz.prog w = .ok 1 w := fun _ => by kernel_rfl

/-- it returns v, and the world has at most drawn -/
def RetQ (v : Value) (w : World) (e : Ending) (w' : World) : Prop := e = .returned v ∧ Qu w w'

theorem ret_bool {a b : Bool} (h : a = b) : Ending.returned (.bool a) = .returned (.bool b) := by rw [h]
theorem ret_int {k : IntKind} {a b : Int} (h : a = b) : Ending.returned (.int k a) = .returned (.int k b) := by rw [h]
theorem list_ext {xs ys : List Int} (hl : xs.length = ys.length) (h : ∀ j, j < xs.length → xs.getD j 0 = ys.getD j 0) : xs = ys :=
  List.ext_getElem hl fun j h1 h2 => by simpa [List.getD_eq_getElem?_getD, h1, h2] using h j h1
theorem rows_ext {xs ys : List (List Int)} (hl : xs.length = ys.length) (h : ∀ j, j < xs.length → xs.getD j [] = ys.getD j []) : xs = ys :=
  List.ext_getElem hl fun j h1 h2 => by simpa [List.getD_eq_getElem?_getD, h1, h2] using h j h1

theorem _root_.Go.Calls.quiet_of_same' {P : Program} {f : FuncId} {args : Array Value} {w : World} {n : Nat} {v : Value} (h : Calls P f args (w.drewN n) fun e w' => e = .returned v ∧ w.drewN n = w') : Calls P f args (w.drewN n) fun e w'' => e = .returned v ∧ ∃ m, w'' = w.drewN m :=
  h.mono fun _ _ ⟨he, hm⟩ => ⟨he, n, hm.symm⟩



/-- the size's answer: -1, or what is left -/
def SzPost (l0 : Int) (total : Nat) (w : World) (e : Ending) (w' : World) : Prop :=
  Qu w w' ∧ ∃ r : Int, e = .returned (.int .i64 r) ∧ (r = -1 ∨ (0 ≤ r ∧ r + total = l0))





end Go.Proofs.YtfdacodbiodiaaaGreatDoor
