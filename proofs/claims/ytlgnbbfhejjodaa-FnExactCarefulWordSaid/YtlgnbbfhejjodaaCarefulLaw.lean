/- The tour of the sets that careful words reach: a plain model. -/
import Derived.Test.YtlgnbbfhejjodaaTourF
import Derived.Test.YtlgnbbfhejjodaaGood
import Derived.Test.YtlgnbbfhejjodaaValidPart
namespace Go.Proofs.Ytlgnbbfhejjodaa
set_option linter.unusedVariables false
set_option linter.unusedSimpArgs false

structure GoodQ (st : Int) (n : Nat) (xss : List (List Int)) : Prop where
  st : st = n
  lo : 1 ≤ n
  hi : n ≤ 10
  len1 : 1 ≤ xss.length
  len3 : xss.length ≤ 3
  rows : ∀ r ∈ xss, r.length = n ∧ ∀ z ∈ r, -1 ≤ z ∧ z < n
theorem goodQ_of {st : Int} {xss : List (List Int)} (h : validP st xss = true) : ∃ n : Nat, GoodQ st n xss := by
  unfold validP at h
  rw [Bool.and_eq_true, Bool.and_eq_true] at h
  obtain ⟨h1, h2, h3⟩ := h
  have h1' := inB_true.1 h1
  have h2' := inB_true.1 h2
  refine ⟨st.toNat, by omega, by omega, by omega, by omega, by omega, fun r hr => ?_⟩
  unfold rowsP at h3
  have := List.all_eq_true.1 h3 r hr
  rw [Bool.and_eq_true] at this
  obtain ⟨a, b⟩ := this
  have a' := of_decide_eq_true a
  refine ⟨by omega, fun z hz => ?_⟩
  have := allIn_iff.1 b z hz
  omega
theorem GoodQ.row {st : Int} {n : Nat} {xss : List (List Int)} (h : GoodQ st n xss) {x : Nat} (hx : x < xss.length) : (xss.getD x []).length = n ∧ ∀ z ∈ xss.getD x [], -1 ≤ z ∧ z < (n : Int) := h.rows _ (getD_mem hx [])

/-- is the letter not read in one of the set's states below k? -/
def badP (row : List Int) (f k : Nat) : Bool := (setTo f k).any fun s => decide (row.getD s 0 < 0)
theorem badP_zero (row : List Int) (f : Nat) : badP row f 0 = false := rfl
theorem badP_succ (row : List Int) (f k : Nat) : badP row f (k + 1) = if f.testBit k then (badP row f k || decide (row.getD k 0 < 0)) else badP row f k := by
  unfold badP
  rw [setTo_succ]
  by_cases h : f.testBit k <;> simp [h]
theorem badP_mono {row : List Int} {f k : Nat} (h : badP row f k = true) : ∀ d, badP row f (k + d) = true := by
  intro d
  induction d with
  | zero => exact h
  | succ d ih =>
    rw [← Nat.add_assoc, badP_succ, ih]
    simp
theorem movedTo_ltP {n : Nat} {row : List Int} (h : ∀ z ∈ row, -1 ≤ z ∧ z < (n : Int)) {f k : Nat} (hk : k ≤ row.length) (hb : badP row f k = false) : movedTo row f k < 2 ^ n := by
  refine bitsOf_lt fun z hz => ?_
  obtain ⟨s, hs, rfl⟩ := List.mem_map.1 hz
  have hs' := setTo_lt hs
  have h1 := h (row.getD s 0) (mem_getD (by omega))
  unfold badP at hb
  rw [List.any_eq_false] at hb
  have h2 := hb s hs
  rw [decide_eq_true_iff] at h2
  omega
def badR (rows : List (List Int)) (x f : Nat) : Bool := badP (rows.getD x []) f (rows.getD x []).length
def stepP (rows : List (List Int)) (i : Nat) (T : Tour) (x : Nat) : Tour := if badR rows x (T.at i).1 = true then T else stepT rows i T x
def innerP (rows : List (List Int)) (i : Nat) (T : Tour) (x : Nat) : Tour := (List.range x).foldl (stepP rows i) T
def roundP (rows : List (List Int)) (T : Tour) (i : Nat) : Tour := if i < T.length then innerP rows i T rows.length else T
def outerP (rows : List (List Int)) (f i : Nat) : Tour := (List.range i).foldl (roundP rows) [(f, [])]
def tourP (rows : List (List Int)) (f : Nat) : Tour := outerP rows f 1024
theorem innerP_zero (rows : List (List Int)) (i : Nat) (T : Tour) : innerP rows i T 0 = T := rfl
theorem innerP_succ (rows : List (List Int)) (i : Nat) (T : Tour) (x : Nat) : innerP rows i T (x + 1) = stepP rows i (innerP rows i T x) x := by simp [innerP, List.range_succ, List.foldl_append]
theorem outerP_succ (rows : List (List Int)) (f i : Nat) : outerP rows f (i + 1) = roundP rows (outerP rows f i) i := by simp [outerP, List.range_succ, List.foldl_append]
theorem outerP_round {rows : List (List Int)} {f i : Nat} (h : i < (outerP rows f i).length) : outerP rows f (i + 1) = innerP rows i (outerP rows f i) rows.length := by rw [outerP_succ, roundP, if_pos h]
theorem stepP_pre (rows : List (List Int)) (i : Nat) (T : Tour) (x : Nat) : ∃ U, stepP rows i T x = T ++ U := by
  unfold stepP
  split
  · exact ⟨[], by simp⟩
  · exact stepT_pre rows i T x
theorem innerP_pre (rows : List (List Int)) (i : Nat) (T : Tour) (x : Nat) : ∃ U, innerP rows i T x = T ++ U := by
  induction x with
  | zero => exact ⟨[], by simp [innerP]⟩
  | succ x ih =>
    obtain ⟨U, hU⟩ := ih
    obtain ⟨V, hV⟩ := stepP_pre rows i (innerP rows i T x) x
    exact ⟨U ++ V, by rw [innerP_succ, hV, hU, List.append_assoc]⟩
theorem innerP_len (rows : List (List Int)) (i : Nat) (T : Tour) (x : Nat) : T.length ≤ (innerP rows i T x).length := by obtain ⟨U, hU⟩ := innerP_pre rows i T x; rw [hU, List.length_append]; omega
theorem innerP_at (rows : List (List Int)) (i : Nat) (T : Tour) (x : Nat) {k : Nat} (h : k < T.length) : (innerP rows i T x).at k = T.at k := by
  obtain ⟨U, hU⟩ := innerP_pre rows i T x
  rw [hU]
  simp [Tour.at, List.getD_eq_getElem?_getD, List.getElem?_append_left h]
theorem GoodT.stepP {st : Int} {n : Nat} {rows : List (List Int)} (hr : GoodQ st n rows) {T : Tour} (h : GoodT n T) {i x : Nat} (hi : i < T.length) (hx : x < rows.length) : GoodT n (stepP rows i T x) := by
  unfold Go.Proofs.Ytlgnbbfhejjodaa.stepP
  split
  · exact h
  · rename_i hb
    unfold stepT
    split
    · exact h
    · rename_i hn
      have hm := Tour.at_mem hi
      have hlt : moved (rows.getD x []) (T.at i).1 < 2 ^ n := movedTo_ltP (hr.row hx).2 (Nat.le_refl _) (by simpa [badR] using hb)
      refine ⟨?_, ?_, ?_, ?_⟩
      · have e : Tour.sets (T ++ [(moved (rows.getD x []) (T.at i).1, (T.at i).2 ++ [(x : Int)])]) = T.sets ++ [moved (rows.getD x []) (T.at i).1] := by simp [Tour.sets]
        rw [e, List.nodup_append]
        refine ⟨h.nodup, by simp, fun a ha b hb => ?_⟩
        simp at hb
        subst hb
        intro e
        subst e
        exact hn ha
      · intro p hp
        rcases List.mem_append.1 hp with hp | hp
        · exact h.lt p hp
        · simp only [List.mem_singleton] at hp
          subst hp
          exact hlt
      · intro p hp
        rw [List.length_append, List.length_singleton]
        rcases List.mem_append.1 hp with hp | hp
        · have := h.word p hp; omega
        · simp only [List.mem_singleton] at hp
          subst hp
          have := h.word _ hm
          simp only [List.length_append, List.length_singleton]
          omega
      · intro p hp z hz
        rcases List.mem_append.1 hp with hp | hp
        · exact h.letter p hp z hz
        · simp only [List.mem_singleton] at hp
          subst hp
          rcases List.mem_append.1 hz with hz | hz
          · exact h.letter _ hm z hz
          · simp at hz
            subst hz
            have := hr.len3
            omega
theorem GoodT.innerP {st : Int} {n : Nat} {rows : List (List Int)} (hr : GoodQ st n rows) {T : Tour} (h : GoodT n T) {i : Nat} (hi : i < T.length) : ∀ x, x ≤ rows.length → GoodT n (innerP rows i T x) := by
  intro x
  induction x with
  | zero => intro _; exact h
  | succ x ih =>
    intro hx
    rw [innerP_succ]
    exact (ih (by omega)).stepP hr (Nat.lt_of_lt_of_le hi (innerP_len rows i T x)) (by omega)
theorem GoodT.outerP {st : Int} {n : Nat} {rows : List (List Int)} (hr : GoodQ st n rows) {f : Nat} (hf : f < 2 ^ n) : ∀ i, GoodT n (outerP rows f i) := by
  intro i
  induction i with
  | zero => exact GoodT.start hf
  | succ i ih =>
    rw [outerP_succ, roundP]
    split
    · rename_i h
      exact ih.innerP hr h _ (Nat.le_refl _)
    · exact ih
theorem outerP_pre (rows : List (List Int)) (f i : Nat) : ∀ d, (outerP rows f i).length ≤ (outerP rows f (i + d)).length ∧ ∀ k, k < (outerP rows f i).length → (outerP rows f (i + d)).at k = (outerP rows f i).at k := by
  intro d
  induction d with
  | zero => exact ⟨Nat.le_refl _, fun k _ => rfl⟩
  | succ d ih =>
    rw [← Nat.add_assoc, outerP_succ]
    unfold roundP
    split
    · refine ⟨Nat.le_trans ih.1 (innerP_len _ _ _ _), fun k hk => ?_⟩
      rw [innerP_at _ _ _ _ (Nat.lt_of_lt_of_le hk ih.1), ih.2 k hk]
    · exact ih
theorem outerP_stay {rows : List (List Int)} {f i : Nat} (h : (outerP rows f i).length ≤ i) : ∀ d, outerP rows f (i + d) = outerP rows f i := by
  intro d
  induction d with
  | zero => rfl
  | succ d ih => rw [← Nat.add_assoc, outerP_succ, ih, roundP, if_neg (by omega)]
theorem tourP_stop {rows : List (List Int)} {f i : Nat} (h : (outerP rows f i).length ≤ i) (hi : i ≤ 1024) : outerP rows f i = tourP rows f := by
  have := outerP_stay h (1024 - i)
  rw [show i + (1024 - i) = 1024 by omega] at this
  exact this.symm
theorem tourP_at {rows : List (List Int)} {f i : Nat} (hi : i ≤ 1024) {k : Nat} (hk : k < (outerP rows f i).length) : k < (tourP rows f).length ∧ (tourP rows f).at k = (outerP rows f i).at k := by
  have h := outerP_pre rows f i (1024 - i)
  rw [show i + (1024 - i) = 1024 by omega] at h
  exact ⟨Nat.lt_of_lt_of_le hk h.1, h.2 k hk⟩
/-- the first set that is small, told while the tour is made -/
theorem firstP_yes {rows : List (List Int)} {f i : Nat} {p : Nat → Bool} (hi : i ≤ 1024) (hk : i < (outerP rows f i).length) (hp : p ((outerP rows f i).at i).1 = true) (h : ∀ j, j < i → p ((outerP rows f i).at j).1 = false) : firstT p (tourP rows f) = some ((outerP rows f i).at i) := by
  obtain ⟨h1, h2⟩ := tourP_at hi hk
  rw [← h2] at hp ⊢
  refine firstT_yes h1 hp fun j hj => ?_
  rw [(tourP_at hi (show j < (outerP rows f i).length by omega)).2]
  exact h j hj
theorem firstP_next {rows : List (List Int)} {f i : Nat} {p : Nat → Bool} (hk : i < (outerP rows f i).length) (hp : p ((outerP rows f i).at i).1 = false) (h : ∀ j, j < i → p ((outerP rows f i).at j).1 = false) : ∀ j, j < i + 1 → p ((outerP rows f (i + 1)).at j).1 = false := by
  intro j hj
  rw [(outerP_pre rows f i 1).2 j (by omega)]
  rcases Nat.lt_or_ge j i with h1 | h1
  · exact h j h1
  · obtain rfl : j = i := by omega
    exact hp
theorem outerP_zero (rows : List (List Int)) (f : Nat) : outerP rows f 0 = [(f, [])] := rfl

def cwT (st : Int) (xss : List (List Int)) : Tour := tourP xss (2 ^ st.toNat - 1)
def cwZs (st : Int) (xss : List (List Int)) : List Int := if validP st xss = true then wordP smallB (cwT st xss) else []
def cwCd (st : Int) (xss : List (List Int)) : Int := if validP st xss = true then codeP smallB (cwT st xss) else 1
theorem cwZs_len (st : Int) (xss : List (List Int)) : (cwZs st xss).length ≤ 1024 := by
  unfold cwZs
  split
  · rename_i hv
    obtain ⟨n, hg⟩ := goodQ_of hv
    have hst := hg.st
    have hT := GoodT.outerP hg (f := 2 ^ n - 1) (by have := Nat.two_pow_pos n; omega) 1024
    change GoodT n (tourP xss (2 ^ n - 1)) at hT
    unfold cwT
    rw [show st.toNat = n by omega]
    have hl := hT.len10 hg.hi
    generalize tourP xss (2 ^ n - 1) = T at hT hl ⊢
    unfold wordP
    cases hf : firstT smallB T with
    | none => simp
    | some e =>
      unfold firstT at hf
      have hm : e ∈ T := List.mem_of_find?_eq_some hf
      have := hT.word e hm
      simp
      omega
  · simp

end Go.Proofs.Ytlgnbbfhejjodaa
