/- Sets of states as bits, and the tour of all sets that words reach: a plain model, no program. -/
namespace Go.Proofs.Ytocdkeidjocmkaa
set_option linter.unusedVariables false
set_option linter.unusedSimpArgs false

/-- a list of numbers as bits -/
def bitsOf (zs : List Int) : Nat := zs.foldl (fun o s => o ||| 2 ^ s.toNat) 0
theorem bitsOf_nil : bitsOf [] = 0 := rfl
theorem bitsOf_snoc (zs : List Int) (z : Int) : bitsOf (zs ++ [z]) = bitsOf zs ||| 2 ^ z.toNat := by simp [bitsOf, List.foldl_append]
theorem bitsOf_take (zs : List Int) (k : Nat) (h : k < zs.length) : bitsOf (zs.take (k + 1)) = bitsOf (zs.take k) ||| 2 ^ (zs.getD k 0).toNat := by
  rw [List.take_succ_eq_append_getElem h, bitsOf_snoc]
  simp [List.getD_eq_getElem?_getD, h]
theorem bitsOf_fold_lt (n : Nat) (zs : List Int) : ∀ o, o < 2 ^ n → (∀ z ∈ zs, z.toNat < n) → zs.foldl (fun o (s : Int) => o ||| 2 ^ s.toNat) o < 2 ^ n := by
  induction zs with
  | nil => intro o ho _; exact ho
  | cons z zs ih =>
    intro o ho hz
    simp only [List.foldl_cons]
    exact ih _ (Nat.or_lt_two_pow ho (Nat.pow_lt_pow_right (by decide) (hz z (List.mem_cons_self ..)))) fun y hy => hz y (List.mem_cons_of_mem _ hy)
theorem bitsOf_lt {n : Nat} {zs : List Int} (h : ∀ z ∈ zs, z.toNat < n) : bitsOf zs < 2 ^ n := bitsOf_fold_lt n zs 0 (Nat.two_pow_pos n) h
theorem testBit_fold (zs : List Int) (j : Nat) : ∀ o, (zs.foldl (fun o (s : Int) => o ||| 2 ^ s.toNat) o).testBit j = (o.testBit j || zs.any fun z => decide (z.toNat = j)) := by
  induction zs with
  | nil => intro o; simp
  | cons z zs ih =>
    intro o
    simp only [List.foldl_cons, List.any_cons]
    rw [ih, Nat.testBit_or, Nat.testBit_two_pow, Bool.or_assoc]
theorem testBit_bitsOf (zs : List Int) (j : Nat) : (bitsOf zs).testBit j = zs.any fun z => decide (z.toNat = j) := by
  unfold bitsOf; rw [testBit_fold]; simp

/-- the numbers whose bits are set -/
def setOf (f : Nat) : List Nat := (List.range 64).filter fun j => f.testBit j
/-- .. below k -/
def setTo (f k : Nat) : List Nat := (List.range k).filter fun j => f.testBit j
theorem setTo_succ (f k : Nat) : setTo f (k + 1) = if f.testBit k then setTo f k ++ [k] else setTo f k := by
  unfold setTo
  rw [List.range_succ, List.filter_append]
  by_cases h : f.testBit k <;> simp [h]
theorem setTo_add {f k : Nat} (h : f < 2 ^ k) : ∀ d, setTo f (k + d) = setTo f k := by
  intro d
  induction d with
  | zero => rfl
  | succ d ih =>
    rw [← Nat.add_assoc, setTo_succ, Nat.testBit_lt_two_pow (Nat.lt_of_lt_of_le h (Nat.pow_le_pow_right (by decide) (by omega)))]
    simpa using ih
theorem setTo_eq {f k m : Nat} (hk : f < 2 ^ k) (hm : f < 2 ^ m) : setTo f k = setTo f m := by
  rcases Nat.le_total k m with h | h
  · have := setTo_add hk (m - k); rw [show k + (m - k) = m by omega] at this; exact this.symm
  · have := setTo_add hm (k - m); rw [show m + (k - m) = k by omega] at this; exact this
theorem setOf_eq {f k : Nat} (hk : f < 2 ^ k) (h64 : k ≤ 64) : setOf f = setTo f k := setTo_eq (k := 64) (Nat.lt_of_lt_of_le hk (Nat.pow_le_pow_right (by decide) h64)) hk
theorem setTo_lt {f k j : Nat} (h : j ∈ setTo f k) : j < k := by unfold setTo at h; simp at h; exact h.1

/-- where a letter leads from a set -/
def moved (row : List Int) (f : Nat) : Nat := bitsOf ((setTo f row.length).map fun s => row.getD s 0)
/-- .. by the states below k -/
def movedTo (row : List Int) (f k : Nat) : Nat := bitsOf ((setTo f k).map fun s => row.getD s 0)
theorem movedTo_succ (row : List Int) (f k : Nat) : movedTo row f (k + 1) = if f.testBit k then movedTo row f k ||| 2 ^ (row.getD k 0).toNat else movedTo row f k := by
  unfold movedTo
  rw [setTo_succ]
  by_cases h : f.testBit k <;> simp [h, bitsOf_snoc]
theorem moved_eq (row : List Int) (f : Nat) : moved row f = movedTo row f row.length := rfl
theorem moved_set {row : List Int} {f : Nat} (hf : f < 2 ^ row.length) (h64 : row.length ≤ 64) : bitsOf ((setOf f).map fun s => row.getD s 0) = moved row f := by
  rw [setOf_eq hf h64]; rfl

/-- a table of rows of n numbers below n -/
def GoodRows (n : Nat) (rows : List (List Int)) : Prop := ∀ r ∈ rows, r.length = n ∧ ∀ z ∈ r, 0 ≤ z ∧ z < n
theorem movedTo_lt {n : Nat} {row : List Int} (h : ∀ z ∈ row, 0 ≤ z ∧ z < (n : Int)) (f k : Nat) (hk : k ≤ row.length) : movedTo row f k < 2 ^ n := by
  refine bitsOf_lt fun z hz => ?_
  obtain ⟨s, hs, rfl⟩ := List.mem_map.1 hz
  have hs' := setTo_lt hs
  have := h (row.getD s 0) (by rw [List.getD_eq_getElem?_getD, List.getElem?_eq_getElem (by omega)]; exact List.getElem_mem _)
  omega
theorem moved_lt {n : Nat} {row : List Int} (h : ∀ z ∈ row, 0 ≤ z ∧ z < (n : Int)) (f : Nat) : moved row f < 2 ^ n := movedTo_lt h f _ (Nat.le_refl _)
theorem GoodRows.row {n : Nat} {rows : List (List Int)} (h : GoodRows n rows) {x : Nat} (hx : x < rows.length) : (rows.getD x []).length = n ∧ ∀ z ∈ rows.getD x [], 0 ≤ z ∧ z < (n : Int) := by
  rw [List.getD_eq_getElem?_getD, List.getElem?_eq_getElem hx]
  exact h _ (List.getElem_mem hx)

/-- sets with their first words, in order -/
abbrev Tour := List (Nat × List Int)
def Tour.at (T : Tour) (i : Nat) : Nat × List Int := T.getD i (0, [])
def Tour.sets (T : Tour) : List Nat := T.map Prod.fst
def stepT (rows : List (List Int)) (i : Nat) (T : Tour) (x : Nat) : Tour :=
  if moved (rows.getD x []) (T.at i).1 ∈ T.sets then T else T ++ [(moved (rows.getD x []) (T.at i).1, (T.at i).2 ++ [(x : Int)])]
def innerT (rows : List (List Int)) (i : Nat) (T : Tour) (x : Nat) : Tour := (List.range x).foldl (stepT rows i) T
def roundT (rows : List (List Int)) (T : Tour) (i : Nat) : Tour := if i < T.length then innerT rows i T rows.length else T
def outerT (rows : List (List Int)) (f i : Nat) : Tour := (List.range i).foldl (roundT rows) [(f, [])]
def tourOf (rows : List (List Int)) (f : Nat) : Tour := outerT rows f 1024

theorem innerT_succ (rows : List (List Int)) (i : Nat) (T : Tour) (x : Nat) : innerT rows i T (x + 1) = stepT rows i (innerT rows i T x) x := by simp [innerT, List.range_succ, List.foldl_append]
theorem outerT_succ (rows : List (List Int)) (f i : Nat) : outerT rows f (i + 1) = roundT rows (outerT rows f i) i := by simp [outerT, List.range_succ, List.foldl_append]
theorem outerT_round {rows : List (List Int)} {f i : Nat} (h : i < (outerT rows f i).length) : outerT rows f (i + 1) = innerT rows i (outerT rows f i) rows.length := by rw [outerT_succ, roundT, if_pos h]

/-- one is the other's beginning -/
theorem stepT_pre (rows : List (List Int)) (i : Nat) (T : Tour) (x : Nat) : ∃ U, stepT rows i T x = T ++ U := by
  unfold stepT
  split
  · exact ⟨[], by simp⟩
  · exact ⟨_, rfl⟩
theorem innerT_pre (rows : List (List Int)) (i : Nat) (T : Tour) (x : Nat) : ∃ U, innerT rows i T x = T ++ U := by
  induction x with
  | zero => exact ⟨[], by simp [innerT]⟩
  | succ x ih =>
    obtain ⟨U, hU⟩ := ih
    obtain ⟨V, hV⟩ := stepT_pre rows i (innerT rows i T x) x
    exact ⟨U ++ V, by rw [innerT_succ, hV, hU, List.append_assoc]⟩
theorem innerT_len (rows : List (List Int)) (i : Nat) (T : Tour) (x : Nat) : T.length ≤ (innerT rows i T x).length := by obtain ⟨U, hU⟩ := innerT_pre rows i T x; rw [hU, List.length_append]; omega
theorem innerT_at (rows : List (List Int)) (i : Nat) (T : Tour) (x : Nat) {k : Nat} (h : k < T.length) : (innerT rows i T x).at k = T.at k := by
  obtain ⟨U, hU⟩ := innerT_pre rows i T x
  rw [hU]
  simp [Tour.at, List.getD_eq_getElem?_getD, List.getElem?_append_left h]

/-- the sets are apart and below 2 ^ n, each word is shorter than the list -/
structure GoodT (n : Nat) (T : Tour) : Prop where
  nodup : T.sets.Nodup
  lt : ∀ p ∈ T, p.1 < 2 ^ n
  word : ∀ p ∈ T, p.2.length < T.length
  letter : ∀ p ∈ T, ∀ z ∈ p.2, 0 ≤ z ∧ z < 3

theorem Tour.at_mem {T : Tour} {i : Nat} (h : i < T.length) : T.at i ∈ T := by unfold Tour.at; rw [List.getD_eq_getElem?_getD, List.getElem?_eq_getElem h]; exact List.getElem_mem h
theorem GoodT.start {n f : Nat} (hf : f < 2 ^ n) : GoodT n [(f, [])] := ⟨by simp [Tour.sets], by simp [hf], by simp, by simp⟩
theorem GoodT.step {n : Nat} {rows : List (List Int)} (hr : GoodRows n rows) (h3 : rows.length ≤ 3) {T : Tour} (h : GoodT n T) {i x : Nat} (hi : i < T.length) (hx : x < rows.length) : GoodT n (stepT rows i T x) := by
  unfold stepT
  split
  · exact h
  · rename_i hn
    have hm := Tour.at_mem hi
    refine ⟨?_, ?_, ?_, ?_⟩
    · have e : Tour.sets (T ++ [(moved (rows.getD x []) (T.at i).1, (T.at i).2 ++ [(x : Int)])]) = T.sets ++ [moved (rows.getD x []) (T.at i).1] := by simp [Tour.sets]
      rw [e, List.nodup_append]
      refine ⟨h.nodup, by simp, fun a ha b hb => ?_⟩
      simp at hb
      subst hb
      intro e
      subst e
      exact hn ha
    · intro p hp
      rcases List.mem_append.1 hp with hp | hp
      · exact h.lt p hp
      · simp at hp
        subst hp
        exact moved_lt (hr.row hx).2 _
    · intro p hp
      rw [List.length_append, List.length_singleton]
      rcases List.mem_append.1 hp with hp | hp
      · have := h.word p hp; omega
      · simp only [List.mem_singleton] at hp
        subst hp
        have := h.word _ hm
        simp only [List.length_append, List.length_singleton]
        omega
    · intro p hp z hz
      rcases List.mem_append.1 hp with hp | hp
      · exact h.letter p hp z hz
      · simp only [List.mem_singleton] at hp
        subst hp
        rcases List.mem_append.1 hz with hz | hz
        · exact h.letter _ hm z hz
        · simp at hz
          subst hz
          omega
theorem GoodT.inner {n : Nat} {rows : List (List Int)} (hr : GoodRows n rows) (h3 : rows.length ≤ 3) {T : Tour} (h : GoodT n T) {i : Nat} (hi : i < T.length) : ∀ x, x ≤ rows.length → GoodT n (innerT rows i T x) := by
  intro x
  induction x with
  | zero => intro _; simpa [innerT] using h
  | succ x ih =>
    intro hx
    rw [innerT_succ]
    exact (ih (by omega)).step hr h3 (Nat.lt_of_lt_of_le hi (innerT_len rows i T x)) (by omega)
theorem GoodT.outer {n : Nat} {rows : List (List Int)} (hr : GoodRows n rows) (h3 : rows.length ≤ 3) {f : Nat} (hf : f < 2 ^ n) : ∀ i, GoodT n (outerT rows f i) := by
  intro i
  induction i with
  | zero => exact GoodT.start hf
  | succ i ih =>
    rw [outerT_succ, roundT]
    split
    · rename_i h
      exact ih.inner hr h3 h _ (Nat.le_refl _)
    · exact ih

theorem nodup_le {n : Nat} : ∀ {l : List Nat}, l.Nodup → (∀ x ∈ l, x < n) → l.length ≤ n := by
  induction n with
  | zero =>
    intro l _ h
    cases l with
    | nil => simp
    | cons a l => exact absurd (h a (List.mem_cons_self ..)) (by omega)
  | succ n ih =>
    intro l hd h
    by_cases hn : n ∈ l
    · have h1 := ih (l := l.erase n) (hd.erase n) fun x hx => by
        have h2 := h x (List.mem_of_mem_erase hx)
        have h3 : x ≠ n := fun e => by subst e; exact hd.not_mem_erase hx
        omega
      rw [List.length_erase_of_mem hn] at h1
      omega
    · have := ih hd fun x hx => by
        have h2 := h x hx
        have h3 : x ≠ n := fun e => hn (e ▸ hx)
        omega
      omega
theorem GoodT.len {n : Nat} {T : Tour} (h : GoodT n T) : T.length ≤ 2 ^ n := by
  have := nodup_le (n := 2 ^ n) h.nodup fun x hx => by
    obtain ⟨p, hp, rfl⟩ := List.mem_map.1 hx
    exact h.lt p hp
  simpa [Tour.sets] using this
theorem GoodT.len10 {n : Nat} {T : Tour} (h : GoodT n T) (hn : n ≤ 10) : T.length ≤ 1024 := Nat.le_trans h.len (Nat.pow_le_pow_right (by decide) hn)

theorem outerT_stay {rows : List (List Int)} {f i : Nat} (h : (outerT rows f i).length ≤ i) : ∀ d, outerT rows f (i + d) = outerT rows f i := by
  intro d
  induction d with
  | zero => rfl
  | succ d ih =>
    rw [← Nat.add_assoc, outerT_succ, ih, roundT, if_neg (by omega)]
theorem tourOf_stop {rows : List (List Int)} {f i : Nat} (h : (outerT rows f i).length ≤ i) (hi : i ≤ 1024) : outerT rows f i = tourOf rows f := by
  have := outerT_stay h (1024 - i)
  rw [show i + (1024 - i) = 1024 by omega] at this
  exact this.symm
theorem outerT_pos (rows : List (List Int)) (f i : Nat) : 0 < (outerT rows f i).length := by
  induction i with
  | zero => simp [outerT]
  | succ i ih =>
    rw [outerT_succ, roundT]
    split
    · exact Nat.lt_of_lt_of_le ih (innerT_len _ _ _ _)
    · exact ih

theorem range_in {n : Nat} (h : n ≤ 10) : ∀ z ∈ (List.range n).map (fun (s : Nat) => (s : Int)), 0 ≤ z ∧ z < 10 := by
  intro z hz
  obtain ⟨s, hs, rfl⟩ := List.mem_map.1 hz
  have := List.mem_range.1 hs
  omega
/-- the set of all -/
theorem full_bits (n : Nat) : bitsOf ((List.range n).map fun (s : Nat) => (s : Int)) = 2 ^ n - 1 := by
  refine Nat.eq_of_testBit_eq fun j => ?_
  rw [testBit_bitsOf, Nat.testBit_two_pow_sub_one]
  rw [Bool.eq_iff_iff]
  simp

end Go.Proofs.Ytocdkeidjocmkaa
