/- What a valid automaton is, plainly; small facts on numbers. -/
import Derived.Test.YtocdkeidjocmkaaValid
import Derived.Test.YtocdkeidjocmkaaTour
namespace Go.Proofs.Ytocdkeidjocmkaa
set_option linter.unusedVariables false
set_option linter.unusedSimpArgs false

theorem allIn_iff {zs : List Int} {lo hi : Int} : allIn zs lo hi = true ↔ ∀ z ∈ zs, lo ≤ z ∧ z ≤ hi := by
  unfold allIn
  rw [List.all_eq_true]
  exact ⟨fun h z hz => inB_true.1 (h z hz), fun h z hz => inB_true.2 (h z hz)⟩

structure Good (st : Int) (n : Nat) (xss : List (List Int)) : Prop where
  st : st = n
  lo : 1 ≤ n
  hi : n ≤ 10
  len1 : 1 ≤ xss.length
  len3 : xss.length ≤ 3
  rows : GoodRows n xss

theorem good_of {st : Int} {xss : List (List Int)} (h : validB st xss = true) : ∃ n : Nat, Good st n xss := by
  unfold validB at h
  rw [Bool.and_eq_true, Bool.and_eq_true] at h
  obtain ⟨h1, h2, h3⟩ := h
  have h1' := inB_true.1 h1
  have h2' := inB_true.1 h2
  refine ⟨st.toNat, by omega, by omega, by omega, by omega, by omega, fun r hr => ?_⟩
  unfold rowsB at h3
  have := List.all_eq_true.1 h3 r hr
  rw [Bool.and_eq_true] at this
  obtain ⟨a, b⟩ := this
  have a' := of_decide_eq_true a
  refine ⟨by omega, fun z hz => ?_⟩
  have := allIn_iff.1 b z hz
  omega
theorem getD_mem {α : Type} {l : List α} {k : Nat} (h : k < l.length) (d : α) : l.getD k d ∈ l := by rw [List.getD_eq_getElem?_getD, List.getElem?_eq_getElem h]; exact List.getElem_mem h
theorem mem_getD {zs : List Int} {s : Nat} (h : s < zs.length) : zs.getD s 0 ∈ zs := by rw [List.getD_eq_getElem?_getD, List.getElem?_eq_getElem h]; exact List.getElem_mem h
theorem Good.row {st : Int} {n : Nat} {xss : List (List Int)} (h : Good st n xss) {x : Nat} (hx : x < xss.length) : (xss.getD x []).length = n := (h.rows.row hx).1
theorem Good.val {st : Int} {n : Nat} {xss : List (List Int)} (h : Good st n xss) {x s : Nat} (hx : x < xss.length) (hs : s < n) : 0 ≤ (xss.getD x []).getD s 0 ∧ (xss.getD x []).getD s 0 < n := by
  obtain ⟨h1, h2⟩ := h.rows.row hx
  exact h2 _ (mem_getD (by omega))
theorem mul_bd {p s : Int} (hp : 0 ≤ p) (hp2 : p ≤ 10) (hs : 0 ≤ s) (hs2 : s ≤ 10) : 0 ≤ p * s ∧ p * s ≤ 100 :=
  ⟨Int.mul_nonneg hp hs, by have := Int.mul_le_mul hp2 hs2 hs (by omega); omega⟩

theorem getD_range_map {α : Type} (f : Nat → α) (n k : Nat) (d : α) (h : k < n) : ((List.range n).map f).getD k d = f k := by simp [List.getD_eq_getElem?_getD, h]
theorem range_map_snoc {α : Type} (f : Nat → α) (k : Nat) : (List.range k).map f ++ [f k] = (List.range (k + 1)).map f := by rw [List.range_succ, List.map_append]; rfl
theorem map_range_getD (zs : List Int) : (List.range zs.length).map (fun s => zs.getD s 0) = zs := by
  refine List.ext_getElem (by simp) fun i h1 h2 => ?_
  simp [List.getD_eq_getElem?_getD, h2]

end Go.Proofs.Ytocdkeidjocmkaa
