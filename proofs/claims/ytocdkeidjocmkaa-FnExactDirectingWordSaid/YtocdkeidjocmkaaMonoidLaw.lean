/- The actions of all words of an automaton, each with its first word: a plain model. -/
import Derived.Test.YtocdkeidjocmkaaGood
namespace Go.Proofs.Ytocdkeidjocmkaa
set_option linter.unusedVariables false
set_option linter.unusedSimpArgs false

abbrev Mon := List (List Int × List Int)
def Mon.at (T : Mon) (i : Nat) : List Int × List Int := T.getD i ([], [])
def Mon.keys (T : Mon) : List (List Int) := T.map Prod.fst
def actBy (row a : List Int) : List Int := a.map fun s => row.getD s.toNat 0
def stepM (rows : List (List Int)) (i : Nat) (T : Mon) (x : Nat) : Mon :=
  if actBy (rows.getD x []) (T.at i).1 ∈ T.keys then T else T ++ [(actBy (rows.getD x []) (T.at i).1, (T.at i).2 ++ [(x : Int)])]
def innerM (rows : List (List Int)) (i : Nat) (T : Mon) (x : Nat) : Mon := (List.range x).foldl (stepM rows i) T
def roundM (rows : List (List Int)) (T : Mon) (i : Nat) : Mon := if i < T.length then innerM rows i T rows.length else T
def outerM (rows : List (List Int)) (n i : Nat) : Mon := (List.range i).foldl (roundM rows) [(run 0 n, [])]
theorem Mon.keys_len (T : Mon) : T.keys.length = T.length := by simp [Mon.keys]
theorem Mon.at_get {T : Mon} {k : Nat} (h : k < T.length) : T.at k = T[k] := by simp [Mon.at, List.getD_eq_getElem?_getD, h]
theorem Mon.at_mem {T : Mon} {k : Nat} (h : k < T.length) : T.at k ∈ T := by rw [Mon.at_get h]; exact List.getElem_mem h
theorem Mon.keys_at {T : Mon} {k : Nat} (h : k < T.length) : T.keys.getD k [] = (T.at k).1 := by simp [Mon.at, Mon.keys, List.getD_eq_getElem?_getD, h]
theorem Mon.words_at {T : Mon} {k : Nat} (h : k < T.length) : (T.map Prod.snd).getD k [] = (T.at k).2 := by simp [Mon.at, List.getD_eq_getElem?_getD, h]
theorem innerM_zero (rows : List (List Int)) (i : Nat) (T : Mon) : innerM rows i T 0 = T := rfl
theorem innerM_succ (rows : List (List Int)) (i : Nat) (T : Mon) (x : Nat) : innerM rows i T (x + 1) = stepM rows i (innerM rows i T x) x := by simp [innerM, List.range_succ, List.foldl_append]
theorem outerM_zero (rows : List (List Int)) (n : Nat) : outerM rows n 0 = [(run 0 n, [])] := rfl
theorem outerM_succ (rows : List (List Int)) (n i : Nat) : outerM rows n (i + 1) = roundM rows (outerM rows n i) i := by simp [outerM, List.range_succ, List.foldl_append]
theorem outerM_round {rows : List (List Int)} {n i : Nat} (h : i < (outerM rows n i).length) : outerM rows n (i + 1) = innerM rows i (outerM rows n i) rows.length := by rw [outerM_succ, roundM, if_pos h]
theorem stepM_pre (rows : List (List Int)) (i : Nat) (T : Mon) (x : Nat) : ∃ U, stepM rows i T x = T ++ U ∧ U.length ≤ 1 := by
  unfold stepM
  split
  · exact ⟨[], by simp, by simp⟩
  · exact ⟨_, rfl, by simp⟩
theorem innerM_pre (rows : List (List Int)) (i : Nat) (T : Mon) (x : Nat) : ∃ U, innerM rows i T x = T ++ U ∧ U.length ≤ x := by
  induction x with
  | zero => exact ⟨[], by simp [innerM], by simp⟩
  | succ x ih =>
    obtain ⟨U, hU, h1⟩ := ih
    obtain ⟨V, hV, h2⟩ := stepM_pre rows i (innerM rows i T x) x
    exact ⟨U ++ V, by rw [innerM_succ, hV, hU, List.append_assoc], by rw [List.length_append]; omega⟩
theorem innerM_len (rows : List (List Int)) (i : Nat) (T : Mon) (x : Nat) : T.length ≤ (innerM rows i T x).length ∧ (innerM rows i T x).length ≤ T.length + x := by obtain ⟨U, hU, h⟩ := innerM_pre rows i T x; rw [hU, List.length_append]; omega
theorem innerM_at (rows : List (List Int)) (i : Nat) (T : Mon) (x : Nat) {k : Nat} (h : k < T.length) : (innerM rows i T x).at k = T.at k := by
  obtain ⟨U, hU, _⟩ := innerM_pre rows i T x
  rw [hU]
  simp [Mon.at, List.getD_eq_getElem?_getD, List.getElem?_append_left h]

/-- what holds of the actions: so many numbers below n, the words no longer than the list -/
structure GoodM (n : Nat) (T : Mon) : Prop where
  key : ∀ p ∈ T, p.1.length = n ∧ ∀ z ∈ p.1, 0 ≤ z ∧ z < (n : Int)
  word : ∀ p ∈ T, p.2.length < T.length
theorem GoodM.start (n : Nat) : GoodM n [(run 0 n, [])] := by
  refine ⟨fun p hp => ?_, fun p hp => ?_⟩
  · simp at hp
    subst hp
    refine ⟨run_length _ _, fun z hz => ?_⟩
    simp only [run, List.mem_map, List.mem_range] at hz
    obtain ⟨j, hj, rfl⟩ := hz
    omega
  · simp at hp
    subst hp
    simp
theorem actBy_good {st : Int} {n : Nat} {rows : List (List Int)} (hr : Good st n rows) {x : Nat} (hx : x < rows.length) {a : List Int} (h : a.length = n ∧ ∀ z ∈ a, 0 ≤ z ∧ z < (n : Int)) : (actBy (rows.getD x []) a).length = n ∧ ∀ z ∈ actBy (rows.getD x []) a, 0 ≤ z ∧ z < (n : Int) := by
  refine ⟨by simp [actBy, h.1], fun z hz => ?_⟩
  obtain ⟨s, hs, rfl⟩ := List.mem_map.1 hz
  have h1 := h.2 s hs
  exact hr.val hx (by omega)
theorem GoodM.step {st : Int} {n : Nat} {rows : List (List Int)} (hr : Good st n rows) {T : Mon} (h : GoodM n T) {i x : Nat} (hi : i < T.length) (hx : x < rows.length) : GoodM n (stepM rows i T x) := by
  unfold stepM
  split
  · exact h
  · have hm := Mon.at_mem hi
    refine ⟨fun p hp => ?_, fun p hp => ?_⟩
    · rcases List.mem_append.1 hp with hp | hp
      · exact h.key p hp
      · simp only [List.mem_singleton] at hp
        subst hp
        exact actBy_good hr hx (h.key _ hm)
    · rw [List.length_append, List.length_singleton]
      rcases List.mem_append.1 hp with hp | hp
      · have := h.word p hp; omega
      · simp only [List.mem_singleton] at hp
        subst hp
        have := h.word _ hm
        simp only [List.length_append, List.length_singleton]
        omega
theorem GoodM.inner {st : Int} {n : Nat} {rows : List (List Int)} (hr : Good st n rows) {T : Mon} (h : GoodM n T) {i : Nat} (hi : i < T.length) : ∀ x, x ≤ rows.length → GoodM n (innerM rows i T x) := by
  intro x
  induction x with
  | zero => intro _; exact h
  | succ x ih =>
    intro hx
    rw [innerM_succ]
    exact (ih (by omega)).step hr (Nat.lt_of_lt_of_le hi (innerM_len rows i T x).1) (by omega)
theorem GoodM.outer {st : Int} {n : Nat} {rows : List (List Int)} (hr : Good st n rows) : ∀ i, GoodM n (outerM rows n i) := by
  intro i
  induction i with
  | zero => exact GoodM.start n
  | succ i ih =>
    rw [outerM_succ, roundM]
    split
    · rename_i h
      exact ih.inner hr h _ (Nat.le_refl _)
    · exact ih
theorem outerM_mono (rows : List (List Int)) (n i : Nat) : ∀ d, (outerM rows n i).length ≤ (outerM rows n (i + d)).length := by
  intro d
  induction d with
  | zero => exact Nat.le_refl _
  | succ d ih =>
    rw [← Nat.add_assoc, outerM_succ]
    unfold roundM
    split
    · exact Nat.le_trans ih (innerM_len _ _ _ _).1
    · exact ih
theorem outerM_stay {rows : List (List Int)} {n i : Nat} (h : (outerM rows n i).length ≤ i) : ∀ d, outerM rows n (i + d) = outerM rows n i := by
  intro d
  induction d with
  | zero => rfl
  | succ d ih => rw [← Nat.add_assoc, outerM_succ, ih, roundM, if_neg (by omega)]
theorem outerM_pos (rows : List (List Int)) (n i : Nat) : 0 < (outerM rows n i).length := by
  have := outerM_mono rows n 0 i
  rw [Nat.zero_add] at this
  simp [outerM_zero] at this
  omega

def monT (rows : List (List Int)) (n : Nat) : Mon := outerM rows n 401
theorem monT_stop {rows : List (List Int)} {n i : Nat} (h : (outerM rows n i).length ≤ i) (hi : i ≤ 401) : outerM rows n i = monT rows n := by
  have := outerM_stay h (401 - i)
  rw [show i + (401 - i) = 401 by omega] at this
  exact this.symm
/-- too many in one round: too many at last -/
theorem monT_many {rows : List (List Int)} {n i : Nat} (hi : i < (outerM rows n i).length) (h4 : (outerM rows n i).length ≤ 400) (h : 400 < (outerM rows n (i + 1)).length) : ¬ (monT rows n).length ≤ 400 := by
  have := outerM_mono rows n (i + 1) (401 - (i + 1))
  rw [show i + 1 + (401 - (i + 1)) = 401 by omega] at this
  unfold monT
  omega
def moZs (st : Int) (xss : List (List Int)) : List (List Int) := if validB st xss = true then (if (monT xss st.toNat).length ≤ 400 then (monT xss st.toNat).keys else []) else []
def moCd (st : Int) (xss : List (List Int)) : Int := if validB st xss = true then (if (monT xss st.toNat).length ≤ 400 then 0 else 3) else 1
theorem bulk_le (m : Nat) : ∀ zss : List (List Int), (∀ r ∈ zss, r.length ≤ m) → bulk2 zss ≤ zss.length * m := by
  intro zss
  induction zss with
  | nil => intro _; simp [bulk2]
  | cons r rs ih =>
    intro h
    have h1 := ih fun x hx => h x (List.mem_cons_of_mem _ hx)
    have h2 := h r (List.mem_cons_self ..)
    unfold bulk2 at h1 ⊢
    rw [List.map_cons, List.sum_cons, List.length_cons, Nat.succ_mul]
    omega
theorem moZs_bulk (st : Int) (xss : List (List Int)) : bulk2 (moZs st xss) ≤ 4000 := by
  unfold moZs
  split
  · rename_i hv
    split
    · rename_i hl
      obtain ⟨n, hg⟩ := good_of hv
      have hst := hg.st
      have hhi := hg.hi
      have hT := GoodM.outer hg 401
      change GoodM n (monT xss n) at hT
      rw [show st.toNat = n by omega] at hl ⊢
      have h := bulk_le 10 (monT xss n).keys fun r hr => by
        obtain ⟨p, hp, rfl⟩ := List.mem_map.1 hr
        have := (hT.key p hp).1
        omega
      rw [Mon.keys_len] at h
      have := Nat.mul_le_mul hl (Nat.le_refl 10)
      omega
    · simp [bulk2]
  · simp [bulk2]

/-- a list of small numbers as bytes -/
def keyB (zs : List Int) : List UInt8 := zs.map fun z => UInt8.ofNat z.toNat
theorem keyB_inj {n : Nat} (hn : n ≤ 10) : ∀ {a b : List Int}, (∀ z ∈ a, 0 ≤ z ∧ z < (n : Int)) → (∀ z ∈ b, 0 ≤ z ∧ z < (n : Int)) → keyB a = keyB b → a = b := by
  intro a
  induction a with
  | nil => intro b _ _ h; cases b with
    | nil => rfl
    | cons y ys => simp [keyB] at h
  | cons x xs ih =>
    intro b ha hb h
    cases b with
    | nil => simp [keyB] at h
    | cons y ys =>
      simp only [keyB, List.map_cons, List.cons.injEq] at h
      obtain ⟨h1, h2⟩ := h
      have hx := ha x (List.mem_cons_self ..)
      have hy := hb y (List.mem_cons_self ..)
      have e := ih (fun z hz => ha z (List.mem_cons_of_mem _ hz)) (fun z hz => hb z (List.mem_cons_of_mem _ hz)) h2
      have h3 := congrArg UInt8.toNat h1
      rw [UInt8.toNat_ofNat', UInt8.toNat_ofNat', Nat.mod_eq_of_lt (by omega), Nat.mod_eq_of_lt (by omega)] at h3
      rw [e, show x = y by omega]

end Go.Proofs.Ytocdkeidjocmkaa
