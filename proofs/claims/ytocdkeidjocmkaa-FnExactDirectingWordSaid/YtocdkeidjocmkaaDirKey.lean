/- Tuples of sets as a map's keys. -/
import Derived.Test.YtocdkeidjocmkaaDirMid
import Derived.Test.YtocdkeidjocmkaaMap
import Derived.DeepKeys4
namespace Go.Proofs.Ytocdkeidjocmkaa
set_option linter.unusedVariables false
set_option linter.unusedSimpArgs false
open Go.ChangeShapes Go.WideShapes Go.ChangeAt Go.RowKit

theorem laidOutT : laidOutB Try.prog = true := by kernel_rfl
theorem law_tuple : Maps.Keyed Try.prog 103 := Maps.Keyed.of_law (deep_law_laid laidOutT (m := 2) (by omega) (of_decide_eq_true (by kernel_rfl)) (by kernel_rfl) (by kernel_rfl))
/-- a tuple's value: ten sets, of which those of y are the first -/
def tupV (y : List Nat) : Value := .agg ((List.range 10).map fun k => Value.int .u64 (y.getD k 0 : Nat)).toArray
/-- a tuple's key -/
def kl (y : List Nat) : Lit := .string (keyBytes ((List.range 10).map fun k => Lit.int .u64 (y.getD k 0 : Nat)))
theorem keyOf_kl {y : List Nat} (hy : ∀ f ∈ y, f < 1024) : keyOf Try.prog 103 (tupV y) = some (kl y) := by
  have hf : ∀ k, y.getD k 0 < 1024 := fun k => by
    rcases Nat.lt_or_ge k y.length with h | h
    · rw [List.getD_eq_getElem?_getD, List.getElem?_eq_getElem h]; exact hy _ (List.getElem_mem h)
    · simp [List.getD_eq_getElem?_getD, h]
  have e : tupV y = .agg #[.int .u64 (y.getD 0 0 : Nat), .int .u64 (y.getD 1 0 : Nat), .int .u64 (y.getD 2 0 : Nat), .int .u64 (y.getD 3 0 : Nat), .int .u64 (y.getD 4 0 : Nat), .int .u64 (y.getD 5 0 : Nat), .int .u64 (y.getD 6 0 : Nat), .int .u64 (y.getD 7 0 : Nat), .int .u64 (y.getD 8 0 : Nat), .int .u64 (y.getD 9 0 : Nat)] := rfl
  have e2 : kl y = .string (keyBytes [.int .u64 (y.getD 0 0 : Nat), .int .u64 (y.getD 1 0 : Nat), .int .u64 (y.getD 2 0 : Nat), .int .u64 (y.getD 3 0 : Nat), .int .u64 (y.getD 4 0 : Nat), .int .u64 (y.getD 5 0 : Nat), .int .u64 (y.getD 6 0 : Nat), .int .u64 (y.getD 7 0 : Nat), .int .u64 (y.getD 8 0 : Nat), .int .u64 (y.getD 9 0 : Nat)]) := rfl
  rw [e, e2]
  have h0 := hf 0
  have h1 := hf 1
  have h2 := hf 2
  have h3 := hf 3
  have h4 := hf 4
  have h5 := hf 5
  have h6 := hf 6
  have h7 := hf 7
  have h8 := hf 8
  have h9 := hf 9
  generalize y.getD 0 0 = a0 at *
  generalize y.getD 1 0 = a1 at *
  generalize y.getD 2 0 = a2 at *
  generalize y.getD 3 0 = a3 at *
  generalize y.getD 4 0 = a4 at *
  generalize y.getD 5 0 = a5 at *
  generalize y.getD 6 0 = a6 at *
  generalize y.getD 7 0 = a7 at *
  generalize y.getD 8 0 = a8 at *
  generalize y.getD 9 0 = a9 at *
  clear e e2 hf hy
  have hk : Try.prog.keyType 103 = true := by kernel_rfl
  have hu : Try.prog.underlying 103 = some (.array 10 101) := by kernel_rfl
  have hu2 : Try.prog.underlying 101 = some (.int .u64) := by kernel_rfl
  have hc : Try.prog.cellsOf 103 = 10 := by kernel_rfl
  have hc2 : Try.prog.cellsOf 101 = 1 := by kernel_rfl
  have hw : ∀ a : Nat, a < 1024 → (Lit.int .u64 (a : Int)).wf = true := fun a ha => by
    have e0 : IntKind.u64.min = 0 := by decide
    have e1 : IntKind.u64.max = 18446744073709551615 := by decide
    simp only [Lit.wf, Bool.and_eq_true, decide_eq_true_eq]
    rw [e0, e1]
    omega
  have hs : ∃ d, Try.prog.types.size + 1 = d + 2 := ⟨Try.prog.types.size - 1, by have : 1 ≤ Try.prog.types.size := of_decide_eq_true (by kernel_rfl); omega⟩
  obtain ⟨d, hd⟩ := hs
  unfold keyOf
  rw [hk, hu, hd]
  have hone : ∀ a : Nat, a < 1024 → Try.prog.keyLits (d + 1) 101 [.int .u64 (a : Int)] = some [.int .u64 (a : Int)] := fun a ha => by
    unfold Program.keyLits
    rw [hu2]
    simp [hw a ha]
  have hl : List.range 10 = [0, 1, 2, 3, 4, 5, 6, 7, 8, 9] := by decide
  simp [Value.formed, hu, hc, hc2, Value.cells, Program.keyLits, hl, hone, *]
end Go.Proofs.Ytocdkeidjocmkaa
