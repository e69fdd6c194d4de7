/- The rank of a tour, told while the tour is made: plain law. -/
import Derived.Test.YtlgnbbfhejjodaaRank
namespace Go.Proofs.Ytlgnbbfhejjodaa
set_option linter.unusedVariables false
set_option linter.unusedSimpArgs false

theorem card_pop : ∀ f, f < 128 → (0 < f → card (f &&& (f - 1)) + 1 = card f) := by decide +kernel
theorem small_card : ∀ f, f < 128 → (0 < f → (smallB f = true ↔ card f = 1)) := by decide +kernel
theorem card_full : ∀ n, n < 8 → card (2 ^ n - 1) = n := by decide +kernel
theorem card_zero : card 0 = 0 := by decide
theorem card_pos {f : Nat} (h : f < 128) (h0 : 0 < f) : 1 ≤ card f := by have := card_pop f h h0; omega
theorem pop_lt {f : Nat} (h : 0 < f) : f &&& (f - 1) < f := by have := Nat.and_le_right (n := f) (m := f - 1); omega

theorem moved_pos {n f : Nat} {row : List Int} (hl : row.length = n) (hf : f < 2 ^ n) (h0 : 0 < f) : 0 < moved row f := by
  obtain ⟨j, hj⟩ := Nat.exists_testBit_of_ne_zero (show f ≠ 0 by omega)
  have hjn : j < n := by
    rcases Nat.lt_or_ge j n with h | h
    · exact h
    · rw [Nat.testBit_lt_two_pow (Nat.lt_of_lt_of_le hf (Nat.pow_le_pow_right (by decide) h))] at hj
      simp at hj
  refine Nat.pos_of_ne_zero fun e => ?_
  have h : (moved row f).testBit (row.getD j 0).toNat = true := by
    unfold moved
    rw [testBit_bitsOf, List.any_eq_true]
    refine ⟨row.getD j 0, List.mem_map.2 ⟨j, ?_, rfl⟩, by simp⟩
    unfold setTo
    rw [List.mem_filter, List.mem_range]
    exact ⟨by omega, hj⟩
  rw [e] at h
  simp at h

def PosT (T : Tour) : Prop := ∀ p ∈ T, 0 < p.1
theorem PosT.step {n : Nat} {rows : List (List Int)} (hr : GoodRows n rows) {T : Tour} (h : PosT T) (hg : GoodT n T) {i x : Nat} (hi : i < T.length) (hx : x < rows.length) : PosT (stepT rows i T x) := by
  unfold stepT
  split
  · exact h
  · intro p hp
    rcases List.mem_append.1 hp with hp | hp
    · exact h p hp
    · simp only [List.mem_singleton] at hp
      subst hp
      exact moved_pos (hr.row hx).1 (hg.lt _ (Tour.at_mem hi)) (h _ (Tour.at_mem hi))
theorem PosT.inner {n : Nat} {rows : List (List Int)} (hr : GoodRows n rows) (h3 : rows.length ≤ 3) {T : Tour} (h : PosT T) (hg : GoodT n T) {i : Nat} (hi : i < T.length) : ∀ x, x ≤ rows.length → PosT (innerT rows i T x) := by
  intro x
  induction x with
  | zero => intro _; simpa [innerT] using h
  | succ x ih =>
    intro hx
    rw [innerT_succ]
    exact (ih (by omega)).step hr (hg.inner hr h3 hi x (by omega)) (Nat.lt_of_lt_of_le hi (innerT_len rows i T x)) (by omega)
theorem PosT.outer {n : Nat} {rows : List (List Int)} (hr : GoodRows n rows) (h3 : rows.length ≤ 3) {f : Nat} (hf : f < 2 ^ n) (h0 : 0 < f) : ∀ i, PosT (outerT rows f i) := by
  intro i
  induction i with
  | zero => intro p hp; simp [outerT] at hp; subst hp; exact h0
  | succ i ih =>
    rw [outerT_succ, roundT]
    split
    · rename_i h
      exact ih.inner hr h3 (GoodT.outer hr h3 hf i) h _ (Nat.le_refl _)
    · exact ih

theorem outerT_pre (rows : List (List Int)) (f i : Nat) : ∀ d, (outerT rows f i).length ≤ (outerT rows f (i + d)).length ∧ ∀ k, k < (outerT rows f i).length → (outerT rows f (i + d)).at k = (outerT rows f i).at k := by
  intro d
  induction d with
  | zero => exact ⟨Nat.le_refl _, fun k _ => rfl⟩
  | succ d ih =>
    rw [← Nat.add_assoc, outerT_succ]
    unfold roundT
    split
    · refine ⟨Nat.le_trans ih.1 (innerT_len _ _ _ _), fun k hk => ?_⟩
      rw [innerT_at _ _ _ _ (Nat.lt_of_lt_of_le hk ih.1), ih.2 k hk]
    · exact ih
theorem leastTo_congr {T U : Tour} {k : Nat} (h0 : T.at 0 = U.at 0) (h : ∀ i, i < k → T.at i = U.at i) : leastTo T k = leastTo U k := by
  induction k with
  | zero => rw [leastTo_zero, leastTo_zero, h0]
  | succ k ih => rw [leastTo_succ, leastTo_succ, ih fun i hi => h i (by omega), h k (by omega)]
theorem leastTo_down (T : Tour) (k : Nat) : ∀ d, leastTo T (k + d) ≤ leastTo T k := by
  intro d
  induction d with
  | zero => exact Nat.le_refl _
  | succ d ih => rw [← Nat.add_assoc, leastTo_succ]; omega
theorem leastTo_ge {n : Nat} {T : Tour} (hg : GoodT n T) (hn : n ≤ 7) (hp : PosT T) (h0 : 0 < T.length) : ∀ k, k ≤ T.length → 1 ≤ leastTo T k := by
  have H : ∀ k, k < T.length → 1 ≤ card (T.at k).1 := fun k hk => by
    have h1 := hg.lt _ (Tour.at_mem hk)
    have h2 : 2 ^ n ≤ 2 ^ 7 := Nat.pow_le_pow_right (by decide) hn
    exact card_pos (by omega) (hp _ (Tour.at_mem hk))
  intro k
  induction k with
  | zero => intro _; rw [leastTo_zero]; exact H 0 h0
  | succ k ih => intro hk; rw [leastTo_succ]; have := ih (by omega); have := H k (by omega); omega
theorem leastTo_hit {T : Tour} (h0 : 0 < T.length) : ∀ k, k ≤ T.length → ∃ i, i < T.length ∧ leastTo T k = card (T.at i).1 := by
  intro k
  induction k with
  | zero => intro _; exact ⟨0, h0, leastTo_zero T⟩
  | succ k ih =>
    intro hk
    obtain ⟨i, hi, e⟩ := ih (by omega)
    rw [leastTo_succ]
    rcases Nat.le_total (leastTo T k) (card (T.at k).1) with h | h
    · exact ⟨i, hi, by omega⟩
    · exact ⟨k, by omega, by omega⟩
theorem leastTo_some (T : Tour) {i k : Nat} (h : i < k) : leastTo T k ≤ card (T.at i).1 := by
  have h1 := leastTo_down T (i + 1) (k - (i + 1))
  rw [show i + 1 + (k - (i + 1)) = k by omega, leastTo_succ] at h1
  omega
/-- the tour's early end -/
theorem rank_early {n : Nat} {rows : List (List Int)} (hr : GoodRows n rows) (h3 : rows.length ≤ 3) (hn : n ≤ 7) {f : Nat} (hf : f < 2 ^ n) (h0 : 0 < f) {i : Nat} (hi : i < (outerT rows f i).length) (hi2 : i ≤ 1024) (h : leastTo (outerT rows f i) (i + 1) = 1) : rankT (tourOf rows f) = 1 := by
  have hp := outerT_pre rows f i (1024 - i)
  rw [show i + (1024 - i) = 1024 by omega] at hp
  change (outerT rows f i).length ≤ (tourOf rows f).length ∧ ∀ k, k < (outerT rows f i).length → (tourOf rows f).at k = (outerT rows f i).at k at hp
  have e := leastTo_congr (T := tourOf rows f) (U := outerT rows f i) (k := i + 1) (hp.2 0 (by omega)) (fun j hj => hp.2 j (by omega))
  have hg : GoodT n (tourOf rows f) := GoodT.outer hr h3 hf 1024
  have h1 := leastTo_ge hg hn (PosT.outer hr h3 hf h0 1024) (outerT_pos rows f 1024) (tourOf rows f).length (Nat.le_refl _)
  have h2 := leastTo_down (tourOf rows f) (i + 1) ((tourOf rows f).length - (i + 1))
  rw [show i + 1 + ((tourOf rows f).length - (i + 1)) = (tourOf rows f).length by omega, e, h] at h2
  unfold rankT
  omega
theorem least_next {rows : List (List Int)} {f i : Nat} (hi : i < (outerT rows f i).length) : leastTo (outerT rows f (i + 1)) (i + 1) = leastTo (outerT rows f i) (i + 1) := by
  have hp := outerT_pre rows f i 1
  exact leastTo_congr (hp.2 0 (by omega)) (fun j hj => hp.2 j (by omega))
/-- it can be reset just where its rank is one -/
theorem small_iff_rank {n : Nat} {rows : List (List Int)} (hr : GoodRows n rows) (h3 : rows.length ≤ 3) (hn : n ≤ 7) {f : Nat} (hf : f < 2 ^ n) (h0 : 0 < f) : (firstT smallB (tourOf rows f)).isSome = decide (rankT (tourOf rows f) = 1) := by
  have hg : GoodT n (tourOf rows f) := GoodT.outer hr h3 hf 1024
  have hp : PosT (tourOf rows f) := PosT.outer hr h3 hf h0 1024
  have hl : 0 < (tourOf rows f).length := outerT_pos rows f 1024
  generalize tourOf rows f = T at hg hp hl ⊢
  have h7 : 2 ^ n ≤ 2 ^ 7 := Nat.pow_le_pow_right (by decide) hn
  have H : ∀ k, k < T.length → (smallB (T.at k).1 = true ↔ card (T.at k).1 = 1) := fun k hk => by
    have h1 := hg.lt _ (Tour.at_mem hk)
    exact small_card _ (by omega) (hp _ (Tour.at_mem hk))
  have hge := leastTo_ge hg hn hp hl T.length (Nat.le_refl _)
  rw [Bool.eq_iff_iff, decide_eq_true_iff]
  constructor
  · intro h
    unfold firstT at h
    rw [List.find?_isSome] at h
    obtain ⟨e, he, hs⟩ := h
    obtain ⟨k, hk, rfl⟩ := List.getElem_of_mem he
    rw [← Tour.at_get hk] at hs
    have h1 := (H k hk).1 hs
    have h2 := leastTo_some T hk
    unfold rankT
    omega
  · intro h
    obtain ⟨i, hi, e⟩ := leastTo_hit hl T.length (Nat.le_refl _)
    unfold rankT at h
    unfold firstT
    rw [List.find?_isSome]
    refine ⟨T.at i, Tour.at_mem hi, (H i hi).2 (by omega)⟩

end Go.Proofs.Ytlgnbbfhejjodaa
