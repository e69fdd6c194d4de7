/- What valid roads are, plainly; the arrangements of their towns. -/
import Derived.Test.YtlgnbbfhejjodaaPaintLaw
namespace Go.Proofs.Ytlgnbbfhejjodaa
set_option linter.unusedVariables false
set_option linter.unusedSimpArgs false

structure GoodR (st : Int) (n d : Nat) (xss : List (List Int)) : Prop where
  st : st = n
  lo : 1 ≤ n
  hi : n ≤ 7
  len : xss.length = n
  d1 : 1 ≤ d
  d3 : d ≤ 3
  row : ∀ s, s < n → (xss.getD s []).length = d
  val : ∀ s, s < n → ∀ z ∈ xss.getD s [], 0 ≤ z ∧ z < n

theorem goodR_of {st : Int} {xss : List (List Int)} (h : validR st xss = true) : ∃ n d : Nat, GoodR st n d xss := by
  unfold validR at h
  rw [Bool.and_eq_true, Bool.and_eq_true, Bool.and_eq_true] at h
  obtain ⟨h1, h2, h3, h4⟩ := h
  have h1' := inB_true.1 h1
  have h2' := of_decide_eq_true h2
  have h3' := inB_true.1 h3
  unfold roadsB at h4
  have hrow : ∀ s, s < xss.length → (xss.getD s []).length = (xss.getD 0 []).length ∧ ∀ z ∈ xss.getD s [], 0 ≤ z ∧ z ≤ st - 1 := fun s hs => by
    have := List.all_eq_true.1 h4 _ (getD_mem hs [])
    unfold roadB at this
    rw [Bool.and_eq_true, Bool.and_eq_true] at this
    exact ⟨of_decide_eq_true this.1, allIn_iff.1 this.2.1⟩
  exact ⟨xss.length, (xss.getD 0 []).length, h2'.symm, by omega, by omega, rfl, by omega, by omega, fun s hs => (hrow s hs).1, fun s hs z hz => by have := (hrow s hs).2 z hz; omega⟩

/-- the arrangements of all towns -/
def choices (xss : List (List Int)) : List (List (List Int)) := xss.map arrOf
theorem choices_len (xss : List (List Int)) : (choices xss).length = xss.length := by simp [choices]
theorem choices_at {xss : List (List Int)} {s : Nat} (h : s < xss.length) : (choices xss).getD s [] = arrOf (xss.getD s []) := by simp [choices, List.getD_eq_getElem?_getD, h]
theorem choices_take (xss : List (List Int)) (k : Nat) (h : k < xss.length) : (choices xss).take (k + 1) = (choices xss).take k ++ [arrOf (xss.getD k [])] := by
  rw [List.take_succ_eq_append_getElem (by rw [choices_len]; exact h)]
  simp [choices, List.getD_eq_getElem?_getD, h]
theorem GoodR.choices {st : Int} {n d : Nat} {xss : List (List Int)} (h : GoodR st n d xss) : GoodL n d (choices xss) := by
  refine ⟨by rw [choices_len, h.len], fun s hs => ?_, fun s hs => ?_, fun s hs a ha => ?_⟩
  · rw [choices_at (by rw [h.len]; exact hs)]; exact arrOf_pos _
  · rw [choices_at (by rw [h.len]; exact hs)]; exact arrOf_le (by rw [h.row s hs]; exact h.d3)
  · rw [choices_at (by rw [h.len]; exact hs)] at ha
    refine ⟨by rw [arr_lens _ _ rfl a ha, h.row s hs], fun z hz => h.val s hs z (arr_mem _ _ rfl a ha z hz)⟩
/-- how many colourings there are -/
def cntOf (ls : List (List (List Int))) : Nat := cntTo ls ls.length

/-- what CountColourings returns -/
def ccOf (st : Int) (xss : List (List Int)) : Int := if validR st xss = true then (cntOf (choices xss) : Int) else 0
def ccCd (st : Int) (xss : List (List Int)) : Int := if validR st xss = true then 0 else 1
end Go.Proofs.Ytlgnbbfhejjodaa
