/- What a valid automaton with choices is, plainly. -/
import Derived.Test.YtocdkeidjocmkaaValidChoice
import Derived.Test.YtocdkeidjocmkaaSpecChoice
import Derived.Test.YtocdkeidjocmkaaGood
namespace Go.Proofs.Ytocdkeidjocmkaa
set_option linter.unusedVariables false
set_option linter.unusedSimpArgs false

structure GoodC (st : Int) (n : Nat) (xss : List (List (List Int))) : Prop where
  st : st = n
  lo : 1 ≤ n
  hi : n ≤ 10
  len1 : 1 ≤ xss.length
  len3 : xss.length ≤ 3
  row : ∀ k, k < xss.length → (xss.getD k []).length = n
  val : ∀ k s, k < xss.length → s < n → risesB ((xss.getD k []).getD s []) 0 ((n : Int) - 1) = true

theorem goodC_of {st : Int} {xss : List (List (List Int))} (h : validC st xss = true) : ∃ n : Nat, GoodC st n xss := by
  unfold validC at h
  rw [Bool.and_eq_true, Bool.and_eq_true] at h
  obtain ⟨h1, h2, h3⟩ := h
  have h1' := inB_true.1 h1
  have h2' := inB_true.1 h2
  have hr : ∀ k, k < xss.length → ((xss.getD k []).length : Int) = st ∧ setsB st (xss.getD k []) = true := fun k hk => by
    unfold rowsC at h3
    have := List.all_eq_true.1 h3 (xss.getD k []) (getD_mem hk _)
    rw [Bool.and_eq_true] at this
    exact ⟨of_decide_eq_true this.1, this.2⟩
  refine ⟨st.toNat, by omega, by omega, by omega, by omega, by omega, fun k hk => by have := (hr k hk).1; omega, fun k s hk hs => ?_⟩
  obtain ⟨a, b⟩ := hr k hk
  unfold setsB at b
  rw [show ((st.toNat : Nat) : Int) = st by omega]
  exact List.all_eq_true.1 b _ (getD_mem (by omega) _)
theorem rises_in {zs : List Int} {lo hi : Int} (h : risesB zs lo hi = true) : ∀ z ∈ zs, lo ≤ z ∧ z ≤ hi := by
  intro z hz
  obtain ⟨k, hk, rfl⟩ := List.getElem_of_mem hz
  unfold risesB at h
  have := List.all_eq_true.1 h k (by simpa using hk)
  unfold riseAt at this
  rw [Bool.and_eq_true] at this
  have := inB_true.1 this.1
  simpa [List.getD_eq_getElem?_getD, hk] using this
theorem GoodC.set {st : Int} {n : Nat} {xss : List (List (List Int))} (h : GoodC st n xss) {k s : Nat} (hk : k < xss.length) (hs : s < n) : ∀ z ∈ (xss.getD k []).getD s [], 0 ≤ z ∧ z < 10 := fun z hz => by
  have := rises_in (h.val k s hk hs) z hz
  have := h.st
  have := h.hi
  omega
theorem rises_ge {zs : List Int} {hi : Int} (h : risesB zs 0 hi = true) : ∀ k, k < zs.length → (k : Int) ≤ zs.getD k 0 := by
  intro k
  have hA : ∀ j, j < zs.length → riseAt zs 0 hi j = true := fun j hj => by unfold risesB at h; exact List.all_eq_true.1 h j (by simpa using hj)
  induction k with
  | zero => intro hk; have := hA 0 hk; unfold riseAt at this; rw [Bool.and_eq_true] at this; have := inB_true.1 this.1; omega
  | succ k ih =>
    intro hk
    have h1 := ih (by omega)
    have h2 := hA (k + 1) hk
    unfold riseAt at h2
    rw [Bool.and_eq_true, Bool.or_eq_true] at h2
    rcases h2.2 with h3 | h3
    · simp at h3
    · have := of_decide_eq_true h3
      rw [Nat.add_sub_cancel] at this
      omega
theorem rises_len {zs : List Int} {n : Nat} (h : risesB zs 0 ((n : Int) - 1) = true) : zs.length ≤ n := by
  rcases Nat.eq_zero_or_pos zs.length with h0 | h0
  · omega
  · have h1 := rises_ge h (zs.length - 1) (by omega)
    have h2 := (rises_in h _ (mem_getD (zs := zs) (s := zs.length - 1) (by omega))).2
    omega
theorem GoodC.len {st : Int} {n : Nat} {xss : List (List (List Int))} (h : GoodC st n xss) {k s : Nat} (hk : k < xss.length) (hs : s < n) : ((xss.getD k []).getD s []).length ≤ n := rises_len (h.val k s hk hs)

end Go.Proofs.Ytocdkeidjocmkaa
