/- RefineChoice, of the reference and of the program. -/
import Derived.Test.YtocdkeidjocmkaaGoodC
import Derived.Test.YtocdkeidjocmkaaBits
import Derived.Test.YtocdkeidjocmkaaStep
namespace Go.Proofs.Ytocdkeidjocmkaa
set_option linter.unusedVariables false
set_option linter.unusedSimpArgs false
open Go.ChangeShapes Go.WideShapes Go.ChangeAt Go.RowKit

theorem bits10 {zs : List Int} (h : ∀ z ∈ zs, 0 ≤ z ∧ z < 10) : bitsOf zs < 1024 := bitsOf_lt (n := 10) fun z hz => by have := h z hz; omega

/-- what is in a and not in b -/
def lessB (a b : Nat) : Nat := (BitVec.ofNat 64 a &&& ~~~ BitVec.ofNat 64 b).toNat
theorem lessB_lt {a b : Nat} (h : a < 1024) : lessB a b < 1024 := by
  unfold lessB
  rw [BitVec.toNat_and, BitVec.toNat_ofNat]
  exact Nat.lt_of_le_of_lt Nat.and_le_left (by omega)
theorem less_u64 {a b : Nat} (ha : a < 1024) : bits .andNot .u64 (a : Int) (b : Int) = ((lessB a b : Nat) : Int) := by
  have h := lessB_lt (b := b) ha
  have e : bits .andNot .u64 (a : Int) (b : Int) = IntKind.u64.wrap ((lessB a b : Nat) : Int) := by rfl
  rw [e, wrap_u64_in _ (by omega) (by omega)]
theorem less_i64 {a b : Nat} (ha : a < 1024) : bits .andNot .i64 (a : Int) (b : Int) = ((lessB a b : Nat) : Int) := by
  have h := lessB_lt (b := b) ha
  have e : bits .andNot .i64 (a : Int) (b : Int) = IntKind.i64.wrap ((lessB a b : Nat) : Int) := by rfl
  rw [e, wrap_i64_in _ (by omega) (by omega)]
theorem lessU_ne {a b : Nat} (ha : a < 1024) : (bits .andNot .u64 (a : Int) (b : Int) != 0) = !(lessB a b == 0) := by
  rw [less_u64 ha, Bool.eq_iff_iff]; simp
theorem lessI_ne {a b : Nat} (ha : a < 1024) : (bits .andNot .i64 (a : Int) (b : Int) != 0) = !(lessB a b == 0) := by
  rw [less_i64 ha, Bool.eq_iff_iff]; simp

def subAt (xa xb : List (List (List Int))) (k s : Nat) : Bool := lessB (bitsOf ((xa.getD k []).getD s [])) (bitsOf ((xb.getD k []).getD s [])) == 0
def subRow (xa xb : List (List (List Int))) (k : Nat) : Bool := (List.range (xa.getD k []).length).all (subAt xa xb k)
def subAll (xa xb : List (List (List Int))) : Bool := (List.range xa.length).all (subRow xa xb)
def refCd (sa sb : Int) (xa xb : List (List (List Int))) : Int := if validC sa xa = true ∧ validC sb xb = true then (if sa = sb ∧ xa.length = xb.length then 0 else 2) else 1
def refOk (sa sb : Int) (xa xb : List (List (List Int))) : Bool := if refCd sa sb xa xb = 0 then subAll xa xb else false
theorem subRow_no {xa xb : List (List (List Int))} {k s : Nat} (hs : s < (xa.getD k []).length) (h : subAt xa xb k s = false) : subRow xa xb k = false := by
  unfold subRow
  rw [List.all_eq_false]
  exact ⟨s, by simpa using hs, by simp [h]⟩
theorem subRow_yes {xa xb : List (List (List Int))} {k : Nat} (h : ∀ s, s < (xa.getD k []).length → subAt xa xb k s = true) : subRow xa xb k = true := by
  unfold subRow; rw [List.all_eq_true]; intro s hs; exact h s (by simpa using hs)
theorem subAll_no {xa xb : List (List (List Int))} {k : Nat} (hs : k < xa.length) (h : subRow xa xb k = false) : subAll xa xb = false := by
  unfold subAll
  rw [List.all_eq_false]
  exact ⟨k, by simpa using hs, by simp [h]⟩
theorem subAll_yes {xa xb : List (List (List Int))} (h : ∀ s, s < xa.length → subRow xa xb s = true) : subAll xa xb = true := by
  unfold subAll; rw [List.all_eq_true]; intro s hs; exact h s (by simpa using hs)

theorem quiet_bits (u : Value) (zs : List Int) (W : World) (h : Ints W u zs) (hz : ∀ z ∈ zs, 0 ≤ z ∧ z < 10) (n : Nat) :
    Calls Try.prog 50 #[u] (W.drewN n) fun e w' => e = .returned (.int .i64 (bitsOf zs : Int)) ∧ W.drewN n = w' := l02Bits_any u zs _ (h.drewN n) hz
theorem quiet_flock (u : Value) (zs : List Int) (W : World) (h : Ints W u zs) (hz : ∀ z ∈ zs, 0 ≤ z ∧ z < 10) (n : Nat) :
    Calls Try.prog 111 #[u] (W.drewN n) fun e w' => e = .returned (.int .u64 (bitsOf zs : Int)) ∧ W.drewN n = w' := flockOf_any u zs _ (h.drewN n) hz



end Go.Proofs.Ytocdkeidjocmkaa
