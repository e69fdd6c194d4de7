/- Ranks of all colourings: the plain law of what is told of them. -/
import Derived.Test.YtlgnbbfhejjodaaSurveyLaw
import Derived.Test.YtlgnbbfhejjodaaPaintGood
import Derived.Test.YtlgnbbfhejjodaaIdxFunc
namespace Go.Proofs.Ytlgnbbfhejjodaa
set_option linter.unusedVariables false
set_option linter.unusedSimpArgs false

/-- the rank of a colouring -/
def rkC (n d : Nat) (ls : List (List (List Int))) (k : Nat) : Nat := rankT (tourOf (colRows ls d k) (2 ^ n - 1))
theorem full_lt (n : Nat) : 2 ^ n - 1 < 2 ^ n := by have := Nat.two_pow_pos n; omega
theorem full_pos {n : Nat} (h : 1 ≤ n) : 0 < 2 ^ n - 1 := by have := Nat.pow_le_pow_right (n := 2) (by decide) h; omega
theorem rkC_in {n d : Nat} {ls : List (List (List Int))} (hg : GoodL n d ls) (h1 : 1 ≤ n) (hn : n ≤ 7) (hd : 1 ≤ d) (h3 : d ≤ 3) (k : Nat) : 1 ≤ rkC n d ls k ∧ rkC n d ls k ≤ n := by
  have hgo := hg.good h1 hn hd h3 k
  have hT : GoodT n (tourOf (colRows ls d k) (2 ^ n - 1)) := GoodT.outer hgo.rows hgo.len3 (full_lt n) 1024
  refine ⟨leastTo_ge hT hn (PosT.outer hgo.rows hgo.len3 (full_lt n) (full_pos h1) 1024) (outerT_pos _ _ 1024) _ (Nat.le_refl _), ?_⟩
  have h := leastTo_down (tourOf (colRows ls d k) (2 ^ n - 1)) 0 (tourOf (colRows ls d k) (2 ^ n - 1)).length
  rw [Nat.zero_add, leastTo_zero, tourOf_zero] at h
  change _ ≤ card (2 ^ n - 1) at h
  show leastTo _ _ ≤ n
  have h2 := card_full n (by omega)
  omega
theorem rkC_small {n d : Nat} {ls : List (List (List Int))} (hg : GoodL n d ls) (h1 : 1 ≤ n) (hn : n ≤ 7) (hd : 1 ≤ d) (h3 : d ≤ 3) (k : Nat) : (firstT smallB (tourOf (colRows ls d k) (2 ^ n - 1))).isSome = decide (rkC n d ls k = 1) := by
  have hgo := hg.good h1 hn hd h3 k
  exact small_iff_rank hgo.rows hgo.len3 hn (full_lt n) (full_pos h1)

/-- what a caller is told of the first k colourings, and whether it wants more -/
def runC {σ : Type} (step : σ → Nat → Nat → σ) (go : σ → Nat → Nat → Bool) (rk : Nat → Nat) (s : σ) : Nat → σ × Bool
  | 0 => (s, true)
  | k + 1 => if (runC step go rk s k).2 = true then (step (runC step go rk s k).1 k (rk k), go (runC step go rk s k).1 k (rk k)) else runC step go rk s k
section
variable {σ : Type} {step : σ → Nat → Nat → σ} {go : σ → Nat → Nat → Bool} {rk : Nat → Nat} {s : σ}
theorem runC_on {k : Nat} (h : (runC step go rk s k).2 = true) : runC step go rk s (k + 1) = (step (runC step go rk s k).1 k (rk k), go (runC step go rk s k).1 k (rk k)) := if_pos h
theorem runC_off {k : Nat} (h : (runC step go rk s k).2 = false) : ∀ d, runC step go rk s (k + d) = runC step go rk s k := by
  intro d
  induction d with
  | zero => rfl
  | succ d ih => rw [← Nat.add_assoc, runC, ih, if_neg (by rw [h]; simp)]
end

def oneR (rk : Nat → Nat) (k : Nat) : Bool := decide (rk k = 1)
/-- first reset -/
def frStep (s : Int) (k r : Nat) : Int := if r = 1 then (k : Int) else s
def frGo (s : Int) (k r : Nat) : Bool := decide (frStep s k r < 0)
theorem fr_run (rk : Nat → Nat) : ∀ k, ((∀ j, j < k → oneR rk j = false) ∧ runC frStep frGo rk (-1) k = (-1, true)) ∨ ∃ j, j < k ∧ oneR rk j = true ∧ (∀ i, i < j → oneR rk i = false) ∧ runC frStep frGo rk (-1) k = ((j : Int), false) := by
  intro k
  induction k with
  | zero => exact .inl ⟨fun j hj => absurd hj (by omega), rfl⟩
  | succ k ih =>
    rcases ih with ⟨h1, h2⟩ | ⟨j, hj, h1, h2, h3⟩
    · by_cases h : rk k = 1
      · refine .inr ⟨k, by omega, by simp [oneR, h], h1, ?_⟩
        rw [runC_on (by rw [h2]), h2]
        simp [frStep, frGo, h]
      · refine .inl ⟨fun j hj => ?_, ?_⟩
        · rcases Nat.lt_or_ge j k with h4 | h4
          · exact h1 j h4
          · obtain rfl : j = k := by omega
            simp [oneR, h]
        · rw [runC_on (by rw [h2]), h2]
          simp [frStep, frGo, h]
    · exact .inr ⟨j, by omega, h1, h2, by rw [runC_off (d := 1) (by rw [h3]), h3]⟩
theorem fr_first (rk : Nat → Nat) (k : Nat) : (runC frStep frGo rk (-1) k).1 = firstAt (oneR rk) k := by
  rcases fr_run rk k with ⟨h1, h2⟩ | ⟨j, hj, h1, h2, h3⟩
  · rw [h2, firstAt_no h1]
  · rw [h3, firstAt_yes hj h1 h2]
theorem firstAt_rng (q : Nat → Bool) (n : Nat) : -1 ≤ firstAt q n ∧ firstAt q n < (n : Int) ∨ firstAt q n = -1 := by
  by_cases h : ∃ k, k < n ∧ q k = true
  · unfold firstAt
    rw [if_pos h]
    obtain ⟨k, hk, hq⟩ := h
    cases hf : (List.range n).find? q with
    | none =>
      rw [List.find?_eq_none] at hf
      exact absurd hq (by simpa using hf k (List.mem_range.2 hk))
    | some j =>
      have := List.mem_range.1 (List.mem_of_find?_eq_some hf)
      left
      simp
      omega
  · right; unfold firstAt; rw [if_neg h]
/-- count of resets -/
def crTo (rk : Nat → Nat) (k : Nat) : Nat := ((List.range k).filter (oneR rk)).length
theorem crTo_succ (rk : Nat → Nat) (k : Nat) : crTo rk (k + 1) = if oneR rk k = true then crTo rk k + 1 else crTo rk k := by
  unfold crTo
  rw [List.range_succ, List.filter_append, List.length_append]
  by_cases h : oneR rk k = true
  · rw [if_pos h]; simp [h]
  · rw [if_neg h]; simp [h]
theorem crTo_le (rk : Nat → Nat) (k : Nat) : crTo rk k ≤ k := by unfold crTo; exact Nat.le_trans (List.length_filter_le _ _) (by simp)
def crStep (s : Int) (_ r : Nat) : Int := if r = 1 then s + 1 else s
def crGo (_ : Int) (_ _ : Nat) : Bool := true
theorem cr_run (rk : Nat → Nat) : ∀ k, runC crStep crGo rk 0 k = ((crTo rk k : Int), true) := by
  intro k
  induction k with
  | zero => rfl
  | succ k ih =>
    rw [runC_on (by rw [ih]), ih, crTo_succ]
    by_cases h : rk k = 1
    · simp [crStep, crGo, oneR, h]
    · simp [crStep, crGo, oneR, h]
/-- least rank, and the first with it -/
def lrTo (rk : Nat → Nat) (s : Nat × Nat) : Nat → Nat × Nat
  | 0 => s
  | k + 1 => if rk k < (lrTo rk s k).1 then (rk k, k) else lrTo rk s k
def lrStep (s : Nat × Nat) (k r : Nat) : Nat × Nat := if r < s.1 then (r, k) else s
def lrGo (s : Nat × Nat) (k r : Nat) : Bool := decide (1 < (lrStep s k r).1)
theorem lr_run {rk : Nat → Nat} {n : Nat} (hn : n ≤ 7) (h1 : ∀ k, 1 ≤ rk k ∧ rk k ≤ n) : ∀ k, (runC lrStep lrGo rk (8, 0) (k + 1)).1 = lrTo rk (n + 1, 0) (k + 1) ∧ ((runC lrStep lrGo rk (8, 0) (k + 1)).2 = false → (lrTo rk (n + 1, 0) (k + 1)).1 ≤ 1) := by
  intro k
  induction k with
  | zero =>
    have h := h1 0
    have a : lrStep (8, 0) 0 (rk 0) = (rk 0, 0) := by unfold lrStep; rw [if_pos (by show rk 0 < 8; omega)]
    have b : lrTo rk (n + 1, 0) 1 = (rk 0, 0) := by show (if rk 0 < n + 1 then _ else _) = _; rw [if_pos (by omega)]
    have c : runC lrStep lrGo rk (8, 0) 1 = ((rk 0, 0), decide (1 < rk 0)) := by
      rw [runC_on rfl]
      show (lrStep (8, 0) 0 (rk 0), lrGo (8, 0) 0 (rk 0)) = _
      unfold lrGo
      rw [a]
    rw [c, b]
    exact ⟨rfl, fun h => by simp at h; exact h⟩
  | succ k ih =>
    obtain ⟨i1, i2⟩ := ih
    have hs : lrTo rk (n + 1, 0) (k + 1 + 1) = lrStep (lrTo rk (n + 1, 0) (k + 1)) (k + 1) (rk (k + 1)) := rfl
    cases hb : (runC lrStep lrGo rk (8, 0) (k + 1)).2
    · rw [runC_off (d := 1) hb, hs, i1, hb]
      have h2 := i2 hb
      have h3 := (h1 (k + 1)).1
      have e : lrStep (lrTo rk (n + 1, 0) (k + 1)) (k + 1) (rk (k + 1)) = lrTo rk (n + 1, 0) (k + 1) := by unfold lrStep; rw [if_neg (by omega)]
      rw [e]
      exact ⟨rfl, fun _ => h2⟩
    · rw [runC_on hb, i1, hs]
      refine ⟨rfl, fun h => ?_⟩
      unfold lrGo at h
      have := of_decide_eq_false h
      omega
theorem lrTo_le {rk : Nat → Nat} {s : Nat × Nat} {B : Nat} (h0 : s.1 ≤ B ∧ s.2 ≤ B) (hr : ∀ k, rk k ≤ B) : ∀ k, (lrTo rk s k).1 ≤ B ∧ (lrTo rk s k).2 ≤ B + k := by
  intro k
  induction k with
  | zero => exact ⟨h0.1, h0.2⟩
  | succ k ih =>
    unfold lrTo
    split
    · exact ⟨hr k, by show k ≤ _; omega⟩
    · exact ⟨ih.1, by have := ih.2; omega⟩

/-- the code of all that asks for all colourings -/
def colCd (st : Int) (xss : List (List Int)) : Int := if validR st xss = true then (if 50000 < cntOf (choices xss) then 3 else 0) else 1
def rkX (xss : List (List Int)) : Nat → Nat := rkC xss.length (xss.getD 0 []).length (choices xss)
theorem rkX_good {st : Int} {n d : Nat} {xss : List (List Int)} (h : GoodR st n d xss) : rkX xss = rkC n d (choices xss) := by
  unfold rkX; rw [h.len, h.row 0 h.lo]
def frX (xss : List (List Int)) : Int := firstAt (oneR (rkX xss)) (cntOf (choices xss))
def frOf (st : Int) (xss : List (List Int)) : Int := if colCd st xss = 0 then (if frX xss < 0 then 0 else frX xss) else 0
def frCd (st : Int) (xss : List (List Int)) : Int := if colCd st xss = 0 then (if frX xss < 0 then 6 else 0) else colCd st xss
def hrOk (st : Int) (xss : List (List Int)) : Bool := decide (colCd st xss = 0) && decide (0 ≤ frX xss)
def crOf (st : Int) (xss : List (List Int)) : Int := if colCd st xss = 0 then (crTo (rkX xss) (cntOf (choices xss)) : Int) else 0
def lrOf (st : Int) (xss : List (List Int)) : Int := if colCd st xss = 0 then ((lrTo (rkX xss) (xss.length + 1, 0) (cntOf (choices xss))).1 : Int) else 0
def lrAt (st : Int) (xss : List (List Int)) : Int := if colCd st xss = 0 then ((lrTo (rkX xss) (xss.length + 1, 0) (cntOf (choices xss))).2 : Int) else 0

end Go.Proofs.Ytlgnbbfhejjodaa
