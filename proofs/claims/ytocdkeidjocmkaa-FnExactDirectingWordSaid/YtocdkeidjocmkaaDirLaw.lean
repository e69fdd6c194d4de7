/- The search for a word that directs: a plain model. -/
import Derived.Test.YtocdkeidjocmkaaGoodC
import Derived.Test.YtocdkeidjocmkaaTour
namespace Go.Proofs.Ytocdkeidjocmkaa
set_option linter.unusedVariables false
set_option linter.unusedSimpArgs false

/-- all that some states' sets hold -/
def goL (row : List (List Int)) (l : List Nat) : Nat := l.foldl (fun a s => a ||| bitsOf (row.getD s [])) 0
def goN (row : List (List Int)) (f k : Nat) : Nat := goL row (setTo f k)
theorem goL_nil (row : List (List Int)) : goL row [] = 0 := rfl
theorem goL_snoc (row : List (List Int)) (l : List Nat) (s : Nat) : goL row (l ++ [s]) = goL row l ||| bitsOf (row.getD s []) := by simp [goL, List.foldl_append]
theorem goL_take (row : List (List Int)) (l : List Nat) (k : Nat) (h : k < l.length) : goL row (l.take (k + 1)) = goL row (l.take k) ||| bitsOf (row.getD (l.getD k 0) []) := by
  rw [List.take_succ_eq_append_getElem h, goL_snoc]
  simp [List.getD_eq_getElem?_getD, h]
theorem goN_zero (row : List (List Int)) (f : Nat) : goN row f 0 = 0 := rfl
theorem goN_yes {row : List (List Int)} {f k : Nat} (h : f.testBit k = true) : goN row f (k + 1) = goN row f k ||| bitsOf (row.getD k []) := by
  unfold goN
  rw [setTo_succ, if_pos h, goL_snoc]
theorem goN_no {row : List (List Int)} {f k : Nat} (h : f.testBit k = false) : goN row f (k + 1) = goN row f k := by
  unfold goN
  rw [setTo_succ, if_neg (by simp [h])]
theorem goL_lt {n : Nat} {row : List (List Int)} {l : List Nat} (h : ∀ s ∈ l, ∀ z ∈ row.getD s [], z.toNat < n) : goL row l < 2 ^ n := by
  unfold goL
  have : ∀ (l : List Nat) a, a < 2 ^ n → (∀ s ∈ l, ∀ z ∈ row.getD s [], z.toNat < n) → l.foldl (fun a s => a ||| bitsOf (row.getD s [])) a < 2 ^ n := by
    intro l
    induction l with
    | nil => intro a ha _; exact ha
    | cons s l ih =>
      intro a ha hl
      exact ih _ (Nat.or_lt_two_pow ha (bitsOf_lt (hl s (List.mem_cons_self ..)))) (fun t ht => hl t (List.mem_cons_of_mem _ ht))
  exact this l 0 (Nat.two_pow_pos n) h
theorem GoodC.go {st : Int} {n : Nat} {xss : List (List (List Int))} (h : GoodC st n xss) {x : Nat} (hx : x < xss.length) (f : Nat) {k : Nat} (hk : k ≤ n) : goN (xss.getD x []) f k < 2 ^ n := by
  refine goL_lt fun s hs z hz => ?_
  have hs' := setTo_lt hs
  have := rises_in (h.val x s hx (by omega)) z hz
  omega

/-- is it so of the sets: all are one state; all are equal; all meet -/
def dirB (kind : Int) (l : List Nat) : Bool :=
  if kind = 1 then (l.all fun f => f == l.getD 0 0) && (l.getD 0 0 != 0 && (l.getD 0 0 &&& (l.getD 0 0 - 1)) == 0)
  else if kind = 2 then l.all fun f => f == l.getD 0 0
  else (l.foldl (fun a f => a &&& f) (l.getD 0 0)) != 0

abbrev Dir := List (List Nat × List Int)
def Dir.at (T : Dir) (i : Nat) : List Nat × List Int := T.getD i ([], [])
def Dir.keys (T : Dir) : List (List Nat) := T.map Prod.fst
theorem Dir.keys_len (T : Dir) : T.keys.length = T.length := by simp [Dir.keys]
theorem Dir.at_get {T : Dir} {k : Nat} (h : k < T.length) : T.at k = T[k] := by simp [Dir.at, List.getD_eq_getElem?_getD, h]
theorem Dir.at_mem {T : Dir} {k : Nat} (h : k < T.length) : T.at k ∈ T := by rw [Dir.at_get h]; exact List.getElem_mem h
theorem Dir.keys_at {T : Dir} {k : Nat} (h : k < T.length) : T.keys.getD k [] = (T.at k).1 := by simp [Dir.at, Dir.keys, List.getD_eq_getElem?_getD, h]
theorem Dir.words_at {T : Dir} {k : Nat} (h : k < T.length) : (T.map Prod.snd).getD k [] = (T.at k).2 := by simp [Dir.at, List.getD_eq_getElem?_getD, h]

/-- where a letter leads all sets -/
def goA (row : List (List Int)) (n : Nat) (a : List Nat) : List Nat := a.map fun f => goN row f n
def firstD (n : Nat) : List Nat := (List.range n).map fun s => 2 ^ s
/-- the search goes on with a list, or is done with a word and a code -/
inductive Sd where
  | run (T : Dir)
  | done (w : List Int) (c : Int)
def Sd.next (s : Sd) (f : Dir → Sd) : Sd := match s with
  | .run T => f T
  | .done w c => .done w c
variable (rows : List (List (List Int))) (n : Nat) (kind : Int)
def stepD (i : Nat) (T : Dir) (x : Nat) : Sd :=
  if goA (rows.getD x []) n (T.at i).1 ∈ T.keys then .run T
  else if dirB kind (goA (rows.getD x []) n (T.at i).1) = true then .done ((T.at i).2 ++ [(x : Int)]) 0
  else if 2000 ≤ T.length then .done [] 3
  else .run (T ++ [(goA (rows.getD x []) n (T.at i).1, (T.at i).2 ++ [(x : Int)])])
def innerD (i : Nat) (T : Dir) : Nat → Sd
  | 0 => .run T
  | x + 1 => (innerD i T x).next fun U => stepD rows n kind i U x
def roundD (i : Nat) (T : Dir) : Sd := if i < T.length then innerD rows n kind i T rows.length else .run T
def outerD : Nat → Sd
  | 0 => .run [(firstD n, [])]
  | i + 1 => (outerD i).next (roundD rows n kind i)
def endD : Sd := outerD rows n kind 2001
def Sd.word : Sd → List Int
  | .run _ => []
  | .done w _ => w
def Sd.code : Sd → Int
  | .run _ => 6
  | .done _ c => c
variable {rows n kind}

theorem innerD_succ {i x : Nat} {T U : Dir} (h : innerD rows n kind i T x = .run U) : innerD rows n kind i T (x + 1) = stepD rows n kind i U x := by rw [innerD, h, Sd.next]
theorem innerD_stop {i x : Nat} {T : Dir} {w : List Int} {c : Int} (h : innerD rows n kind i T x = .done w c) : ∀ d, innerD rows n kind i T (x + d) = .done w c := by
  intro d
  induction d with
  | zero => exact h
  | succ d ih => rw [← Nat.add_assoc, innerD, ih, Sd.next]
theorem outerD_succ {i : Nat} {T : Dir} (h : outerD rows n kind i = .run T) (hi : i < T.length) : outerD rows n kind (i + 1) = innerD rows n kind i T rows.length := by rw [outerD, h, Sd.next, roundD, if_pos hi]
theorem outerD_stop {i : Nat} {w : List Int} {c : Int} (h : outerD rows n kind i = .done w c) : ∀ d, outerD rows n kind (i + d) = .done w c := by
  intro d
  induction d with
  | zero => exact h
  | succ d ih => rw [← Nat.add_assoc, outerD, ih, Sd.next]
theorem outerD_stay {i : Nat} {T : Dir} (h : outerD rows n kind i = .run T) (hi : T.length ≤ i) : ∀ d, outerD rows n kind (i + d) = .run T := by
  intro d
  induction d with
  | zero => exact h
  | succ d ih => rw [← Nat.add_assoc, outerD, ih, Sd.next, roundD, if_neg (by omega)]
/-- the search is done in a step -/
theorem endD_done {i x : Nat} {T U : Dir} {w : List Int} {c : Int} (h : outerD rows n kind i = .run T) (hi : i < T.length) (hl : T.length ≤ 2000) (hx : x < rows.length) (hU : innerD rows n kind i T x = .run U) (hs : stepD rows n kind i U x = .done w c) : endD rows n kind = .done w c := by
  have h1 : innerD rows n kind i T (x + 1) = .done w c := by rw [innerD_succ hU, hs]
  have h2 := innerD_stop h1 (rows.length - (x + 1))
  rw [show x + 1 + (rows.length - (x + 1)) = rows.length by omega, ← outerD_succ h hi] at h2
  have h3 := outerD_stop h2 (2001 - (i + 1))
  rw [show i + 1 + (2001 - (i + 1)) = 2001 by omega] at h3
  exact h3
/-- the search runs out -/
theorem endD_run {i : Nat} {T : Dir} (h : outerD rows n kind i = .run T) (hi : T.length ≤ i) (hl : i ≤ 2000) : endD rows n kind = .run T := by
  have h3 := outerD_stay h hi (2001 - i)
  rw [show i + (2001 - i) = 2001 by omega] at h3
  exact h3

/-- what holds of the list: each key so many sets, no key twice, the words shorter than the list -/
structure GoodD (n : Nat) (T : Dir) : Prop where
  nodup : T.keys.Nodup
  key : ∀ p ∈ T, p.1.length = n ∧ ∀ f ∈ p.1, f < 2 ^ n
  word : ∀ p ∈ T, p.2.length < T.length
  many : T.length ≤ 2000
  pos : 0 < T.length
theorem GoodD.start (n : Nat) : GoodD n [(firstD n, [])] := by
  refine ⟨by simp [Dir.keys], fun p hp => ?_, fun p hp => ?_, by simp, by simp⟩
  · simp at hp
    subst hp
    refine ⟨by simp [firstD], fun f hf => ?_⟩
    simp only [firstD, List.mem_map, List.mem_range] at hf
    obtain ⟨j, hj, rfl⟩ := hf
    exact Nat.pow_lt_pow_right (by omega) hj
  · simp at hp
    subst hp
    simp
theorem goA_good {st : Int} (hr : GoodC st n rows) {x : Nat} (hx : x < rows.length) {a : List Nat} (h : a.length = n) : (goA (rows.getD x []) n a).length = n ∧ ∀ f ∈ goA (rows.getD x []) n a, f < 2 ^ n := by
  refine ⟨by simp [goA, h], fun f hf => ?_⟩
  obtain ⟨s, hs, rfl⟩ := List.mem_map.1 hf
  exact hr.go hx s (Nat.le_refl _)
theorem GoodD.step {st : Int} (hr : GoodC st n rows) {T U : Dir} (h : GoodD n T) {i x : Nat} (hi : i < T.length) (hx : x < rows.length) (hs : stepD rows n kind i T x = .run U) : GoodD n U ∧ ∃ V, U = T ++ V := by
  unfold stepD at hs
  split at hs
  · cases hs
    exact ⟨h, [], by simp⟩
  · rename_i hn
    split at hs
    · cases hs
    · split at hs
      · cases hs
      · rename_i hl
        cases hs
        have hm := Dir.at_mem hi
        refine ⟨⟨?_, fun p hp => ?_, fun p hp => ?_, by rw [List.length_append, List.length_singleton]; omega, by rw [List.length_append]; have := h.pos; omega⟩, _, rfl⟩
        · have e : Dir.keys (T ++ [(goA (rows.getD x []) n (T.at i).1, (T.at i).2 ++ [(x : Int)])]) = T.keys ++ [goA (rows.getD x []) n (T.at i).1] := by simp [Dir.keys]
          rw [e, List.nodup_append]
          refine ⟨h.nodup, by simp, fun a ha b hb => ?_⟩
          simp only [List.mem_singleton] at hb
          subst hb
          intro e
          exact hn (e ▸ ha)
        · rcases List.mem_append.1 hp with hp | hp
          · exact h.key p hp
          · simp only [List.mem_singleton] at hp
            subst hp
            exact goA_good hr hx (h.key _ hm).1
        · rw [List.length_append, List.length_singleton]
          rcases List.mem_append.1 hp with hp | hp
          · have := h.word p hp; omega
          · simp only [List.mem_singleton] at hp
            subst hp
            have := h.word _ hm
            simp only [List.length_append, List.length_singleton]
            omega
theorem GoodD.inner {st : Int} (hr : GoodC st n rows) {T : Dir} (h : GoodD n T) {i : Nat} (hi : i < T.length) : ∀ x U, x ≤ rows.length → innerD rows n kind i T x = .run U → GoodD n U ∧ ∃ V, U = T ++ V := by
  intro x
  induction x with
  | zero => intro U _ e; rw [innerD] at e; cases e; exact ⟨h, [], by simp⟩
  | succ x ih =>
    intro U hx e
    cases he : innerD rows n kind i T x with
    | done w c => rw [innerD, he, Sd.next] at e; cases e
    | run S =>
      rw [innerD_succ he] at e
      obtain ⟨h1, V, hV⟩ := ih S (by omega) he
      have hiS : i < S.length := by rw [hV, List.length_append]; omega
      obtain ⟨h2, V2, hV2⟩ := h1.step hr hiS (by omega) e
      exact ⟨h2, V ++ V2, by rw [hV2, hV, List.append_assoc]⟩
theorem GoodD.outer {st : Int} (hr : GoodC st n rows) : ∀ i T, outerD rows n kind i = .run T → GoodD n T := by
  intro i
  induction i with
  | zero => intro T e; rw [outerD] at e; cases e; exact GoodD.start n
  | succ i ih =>
    intro T e
    cases he : outerD rows n kind i with
    | done w c => rw [outerD, he, Sd.next] at e; cases e
    | run S =>
      by_cases hi : i < S.length
      · rw [outerD_succ he hi] at e
        exact ((ih S he).inner hr hi _ T (Nat.le_refl _) e).1
      · rw [outerD, he, Sd.next, roundD, if_neg hi] at e
        injection e with e
        subst e
        exact ih _ he
theorem Dir.at_pre {T V : Dir} {k : Nat} (h : k < T.length) : Dir.at (T ++ V) k = T.at k := by simp [Dir.at, List.getD_eq_getElem?_getD, List.getElem?_append_left h]
/-- one step, from the list's own element -/
theorem stepD_yes {i x : Nat} {T : Dir} (h : goA (rows.getD x []) n (T.at i).1 ∈ T.keys) : stepD rows n kind i T x = .run T := by rw [stepD, if_pos h]
theorem stepD_found {i x : Nat} {T : Dir} (h : goA (rows.getD x []) n (T.at i).1 ∉ T.keys) (h2 : dirB kind (goA (rows.getD x []) n (T.at i).1) = true) : stepD rows n kind i T x = .done ((T.at i).2 ++ [(x : Int)]) 0 := by rw [stepD, if_neg h, if_pos h2]
theorem stepD_many {i x : Nat} {T : Dir} (h : goA (rows.getD x []) n (T.at i).1 ∉ T.keys) (h2 : dirB kind (goA (rows.getD x []) n (T.at i).1) = false) (h3 : 2000 ≤ T.length) : stepD rows n kind i T x = .done [] 3 := by rw [stepD, if_neg h, if_neg (by rw [h2]; decide), if_pos h3]
theorem stepD_push {i x : Nat} {T : Dir} (h : goA (rows.getD x []) n (T.at i).1 ∉ T.keys) (h2 : dirB kind (goA (rows.getD x []) n (T.at i).1) = false) (h3 : T.length < 2000) : stepD rows n kind i T x = .run (T ++ [(goA (rows.getD x []) n (T.at i).1, (T.at i).2 ++ [(x : Int)])]) := by rw [stepD, if_neg h, if_neg (by rw [h2]; decide), if_neg (by omega)]

/-- the answer: the word, the code -/
def dwZs (st : Int) (xss : List (List (List Int))) (kind : Int) : List Int :=
  if validC st xss = true then (if inB kind 1 3 = true then (if dirB kind (firstD st.toNat) = true then [] else (endD xss st.toNat kind).word) else []) else []
def dwCd (st : Int) (xss : List (List (List Int))) (kind : Int) : Int :=
  if validC st xss = true then (if inB kind 1 3 = true then (if dirB kind (firstD st.toNat) = true then 0 else (endD xss st.toNat kind).code) else 2) else 1
/-- the words of a search that is done are short -/
theorem stepD_word {T : Dir} (h : GoodD n T) {i x : Nat} (hi : i < T.length) {w : List Int} {c : Int} (hs : stepD rows n kind i T x = .done w c) : w.length ≤ 2000 := by
  unfold stepD at hs
  split at hs
  · cases hs
  · split at hs
    · cases hs
      have := h.word _ (Dir.at_mem hi)
      have := h.many
      simp only [List.length_append, List.length_singleton]
      omega
    · split at hs
      · cases hs; simp
      · cases hs
theorem innerD_word {st : Int} (hr : GoodC st n rows) {T : Dir} (h : GoodD n T) {i : Nat} (hi : i < T.length) : ∀ x w c, x ≤ rows.length → innerD rows n kind i T x = .done w c → w.length ≤ 2000 := by
  intro x
  induction x with
  | zero => intro w c _ e; rw [innerD] at e; cases e
  | succ x ih =>
    intro w c hx e
    cases he : innerD rows n kind i T x with
    | done w' c' =>
      rw [innerD, he, Sd.next] at e
      cases e
      exact ih _ _ (by omega) he
    | run S =>
      rw [innerD_succ he] at e
      obtain ⟨h1, V, hV⟩ := h.inner hr hi x S (by omega) he
      exact stepD_word h1 (by rw [hV, List.length_append]; omega) e
theorem outerD_word {st : Int} (hr : GoodC st n rows) : ∀ i w c, outerD rows n kind i = .done w c → w.length ≤ 2000 := by
  intro i
  induction i with
  | zero => intro w c e; rw [outerD] at e; cases e
  | succ i ih =>
    intro w c e
    cases he : outerD rows n kind i with
    | done w' c' =>
      rw [outerD, he, Sd.next] at e
      cases e
      exact ih _ _ he
    | run S =>
      by_cases hi : i < S.length
      · rw [outerD_succ he hi] at e
        exact innerD_word hr (GoodD.outer hr i S he) hi _ w c (Nat.le_refl _) e
      · rw [outerD, he, Sd.next, roundD, if_neg hi] at e
        cases e
theorem dwZs_len (st : Int) (xss : List (List (List Int))) (kind : Int) : (dwZs st xss kind).length ≤ 2000 := by
  unfold dwZs
  split
  · rename_i hv
    obtain ⟨n, hg⟩ := goodC_of hv
    have hst := hg.st
    rw [show st.toNat = n by omega]
    split
    · split
      · simp
      · cases he : endD xss n kind with
        | run T => simp [Sd.word]
        | done w c => exact outerD_word hg _ _ _ he
    · simp
  · simp

end Go.Proofs.Ytocdkeidjocmkaa
