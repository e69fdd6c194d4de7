/- Arrangements and colourings: the plain law. -/
import Derived.Test.YtlgnbbfhejjodaaSpecRoad
import Derived.Test.YtlgnbbfhejjodaaGood
namespace Go.Proofs.Ytlgnbbfhejjodaa
set_option linter.unusedVariables false
set_option linter.unusedSimpArgs false

/-- all arrangements of a list in order -/
def arrIf (f : List Int → List (List Int)) (l : List Int) (i : Nat) : List (List Int) := if 0 < i ∧ l.getD i 0 = l.getD (i - 1) 0 then [] else (f (l.eraseIdx i)).map (l.getD i 0 :: ·)
def arr : Nat → List Int → List (List Int)
  | 0, _ => [[]]
  | n + 1, l => (List.range l.length).flatMap (arrIf (arr n) l)
def arrTo (n : Nat) (l : List Int) (k : Nat) : List (List Int) := (List.range k).flatMap (arrIf (arr n) l)
theorem arrTo_succ (n : Nat) (l : List Int) (k : Nat) : arrTo n l (k + 1) = arrTo n l k ++ arrIf (arr n) l k := by simp [arrTo, List.range_succ, List.flatMap_append]
theorem arrTo_all (n : Nat) (l : List Int) : arrTo n l l.length = arr (n + 1) l := rfl
theorem arr_lens : ∀ (n : Nat) (l : List Int), l.length = n → ∀ a ∈ arr n l, a.length = n := by
  intro n
  induction n with
  | zero => intro l _ a ha; simp [arr] at ha; subst ha; rfl
  | succ n ih =>
    intro l hl a ha
    rw [arr, List.mem_flatMap] at ha
    obtain ⟨i, hi, ha⟩ := ha
    rw [List.mem_range] at hi
    unfold arrIf at ha
    split at ha
    · simp at ha
    · obtain ⟨b, hb, rfl⟩ := List.mem_map.1 ha
      have := ih (l.eraseIdx i) (by rw [List.length_eraseIdx, if_pos hi]; omega) b hb
      simp [this]
theorem arr_mem : ∀ (n : Nat) (l : List Int), l.length = n → ∀ a ∈ arr n l, ∀ z ∈ a, z ∈ l := by
  intro n
  induction n with
  | zero => intro l _ a ha z hz; simp [arr] at ha; subst ha; simp at hz
  | succ n ih =>
    intro l hl a ha z hz
    rw [arr, List.mem_flatMap] at ha
    obtain ⟨i, hi, ha⟩ := ha
    rw [List.mem_range] at hi
    unfold arrIf at ha
    split at ha
    · simp at ha
    · obtain ⟨b, hb, rfl⟩ := List.mem_map.1 ha
      rcases List.mem_cons.1 hz with rfl | hz
      · exact mem_getD hi
      · exact List.mem_of_mem_eraseIdx (ih (l.eraseIdx i) (by rw [List.length_eraseIdx, if_pos hi]; omega) b hb z hz)
def fact : Nat → Nat
  | 0 => 1
  | n + 1 => (n + 1) * fact n
theorem arrIf_len {f : List Int → List (List Int)} {l : List Int} {i B : Nat} (h : (f (l.eraseIdx i)).length ≤ B) : (arrIf f l i).length ≤ B := by
  unfold arrIf
  split
  · simp
  · simpa using h
theorem arr_le : ∀ (n : Nat) (l : List Int), l.length = n → (arr n l).length ≤ fact n := by
  intro n
  induction n with
  | zero => intro l _; simp [arr, fact]
  | succ n ih =>
    intro l hl
    have h : ∀ k, k ≤ l.length → ((List.range k).flatMap (arrIf (arr n) l)).length ≤ k * fact n := by
      intro k
      induction k with
      | zero => intro _; simp
      | succ k ih2 =>
        intro hk
        rw [List.range_succ, List.flatMap_append, List.length_append, Nat.succ_mul]
        have h1 := ih2 (by omega)
        have h2 := arrIf_len (f := arr n) (l := l) (i := k) (ih (l.eraseIdx k) (by rw [List.length_eraseIdx, if_pos (by omega)]; omega))
        simp only [List.flatMap_cons, List.flatMap_nil, List.append_nil]
        omega
    have := h l.length (Nat.le_refl _)
    rw [arr, fact, ← hl]
    exact this
theorem arr_pos : ∀ (n : Nat) (l : List Int), l.length = n → 0 < (arr n l).length := by
  intro n
  induction n with
  | zero => intro l _; simp [arr]
  | succ n ih =>
    intro l hl
    have h0 : 0 < (arrIf (arr n) l 0).length := by
      unfold arrIf
      rw [if_neg (by omega), List.length_map]
      exact ih _ (by rw [List.length_eraseIdx, if_pos (by omega)]; omega)
    rw [arr, hl, List.range_succ_eq_map, List.flatMap_cons, List.length_append]
    omega
def arrOf (l : List Int) : List (List Int) := arr l.length l
theorem arrOf_le {l : List Int} (h : l.length ≤ 3) : (arrOf l).length ≤ 6 := by
  have h1 := arr_le l.length l rfl
  have h2 : ∀ k, k ≤ 3 → fact k ≤ 6 := by decide
  exact Nat.le_trans h1 (h2 _ h)
theorem arrOf_pos (l : List Int) : 0 < (arrOf l).length := arr_pos l.length l rfl
theorem arrOf_nil : arrOf [] = [[]] := rfl
theorem arrOf_to {l : List Int} {n : Nat} (h : l.length = n + 1) : arrOf l = arrTo n l l.length := by unfold arrOf; rw [h]; unfold arrTo; rw [arr, h]
theorem arrOf_erase {l : List Int} {n i : Nat} (h : l.length = n + 1) (hi : i < l.length) : arr n (l.eraseIdx i) = arrOf (l.eraseIdx i) := by
  unfold arrOf; rw [List.length_eraseIdx, if_pos hi, h]; rfl
theorem arrTo_skip {n : Nat} {l : List Int} {k : Nat} (h : 0 < k ∧ l.getD k 0 = l.getD (k - 1) 0) : arrTo n l (k + 1) = arrTo n l k := by rw [arrTo_succ]; unfold arrIf; rw [if_pos h, List.append_nil]
theorem arrTo_take {n : Nat} {l : List Int} {k : Nat} (h : ¬ (0 < k ∧ l.getD k 0 = l.getD (k - 1) 0)) : arrTo n l (k + 1) = arrTo n l k ++ (arr n (l.eraseIdx k)).map (l.getD k 0 :: ·) := by rw [arrTo_succ]; unfold arrIf; rw [if_neg h]
theorem arrTo_le {n : Nat} {l : List Int} (hl : l.length = n + 1) (hn : l.length ≤ 3) {k : Nat} (hk : k ≤ l.length) : (arrTo n l k).length ≤ 18 := by
  have h : ∀ k, k ≤ l.length → (arrTo n l k).length ≤ k * 6 := by
    intro k
    induction k with
    | zero => intro _; simp [arrTo]
    | succ k ih =>
      intro hk
      rw [arrTo_succ, List.length_append, Nat.succ_mul]
      have h1 := ih (by omega)
      have h2 := arrIf_len (f := arr n) (l := l) (i := k) (B := 6) (by
        have := arr_le n (l.eraseIdx k) (by rw [List.length_eraseIdx, if_pos (by omega)]; omega)
        have h2 : ∀ k, k ≤ 3 → fact k ≤ 6 := by decide
        exact Nat.le_trans this (h2 _ (by omega)))
      omega
  have := h k hk
  omega

/-- how many colourings there are, of the first k towns -/
def cntTo (ls : List (List (List Int))) (k : Nat) : Nat := (List.range k).foldl (fun o s => o * (ls.getD s []).length) 1
theorem cntTo_succ (ls : List (List (List Int))) (k : Nat) : cntTo ls (k + 1) = cntTo ls k * (ls.getD k []).length := by simp [cntTo, List.range_succ, List.foldl_append]
/-- the lists of the arrangements are as they should be -/
structure GoodL (n d : Nat) (ls : List (List (List Int))) : Prop where
  len : ls.length = n
  pos : ∀ s, s < n → 0 < (ls.getD s []).length
  six : ∀ s, s < n → (ls.getD s []).length ≤ 6
  row : ∀ s, s < n → ∀ a ∈ ls.getD s [], a.length = d ∧ ∀ z ∈ a, 0 ≤ z ∧ z < n
theorem GoodL.cnt {n d : Nat} {ls : List (List (List Int))} (h : GoodL n d ls) : ∀ k, k ≤ n → 1 ≤ cntTo ls k ∧ cntTo ls k ≤ 6 ^ k := by
  intro k
  induction k with
  | zero => intro _; simp [cntTo]
  | succ k ih =>
    intro hk
    obtain ⟨h1, h2⟩ := ih (by omega)
    have h3 := h.pos k (by omega)
    have h4 := h.six k (by omega)
    rw [cntTo_succ, Nat.pow_succ]
    exact ⟨Nat.mul_pos h1 h3, Nat.mul_le_mul h2 h4⟩
theorem GoodL.cnt7 {n d : Nat} {ls : List (List (List Int))} (h : GoodL n d ls) (hn : n ≤ 7) {k : Nat} (hk : k ≤ n) : cntTo ls k ≤ 279936 := by
  have h1 := (h.cnt k hk).2
  have h2 : 6 ^ k ≤ 6 ^ 7 := Nat.pow_le_pow_right (by decide) (by omega)
  exact Nat.le_trans h1 h2

/-- the number that is left when k towns from the end have been served; the arrangement of town s -/
def numLeft (ls : List (List (List Int))) (z : Nat) : Nat → Nat
  | 0 => z
  | k + 1 => numLeft ls z k / (ls.getD (ls.length - 1 - k) []).length
theorem numLeft_le (ls : List (List (List Int))) (z : Nat) (k : Nat) : numLeft ls z k ≤ z := by
  induction k with
  | zero => exact Nat.le_refl _
  | succ k ih => exact Nat.le_trans (Nat.div_le_self _ _) ih
def pickAt (ls : List (List (List Int))) (z s : Nat) : List Int := (ls.getD s []).getD (numLeft ls z (ls.length - 1 - s) % (ls.getD s []).length) []
def colRows (ls : List (List (List Int))) (d z : Nat) : List (List Int) := (List.range d).map fun x => (List.range ls.length).map fun s => (pickAt ls z s).getD x 0
theorem GoodL.pick {n d : Nat} {ls : List (List (List Int))} (h : GoodL n d ls) (z : Nat) {s : Nat} (hs : s < n) : pickAt ls z s ∈ ls.getD s [] := by
  unfold pickAt
  exact getD_mem (Nat.mod_lt _ (h.pos s hs)) _
theorem colRows_len (ls : List (List (List Int))) (d z : Nat) : (colRows ls d z).length = d := by simp [colRows]
theorem colRows_row (ls : List (List (List Int))) (d z x : Nat) (hx : x < d) : (colRows ls d z).getD x [] = (List.range ls.length).map fun s => (pickAt ls z s).getD x 0 := by simp [colRows, List.getD_eq_getElem?_getD, hx]
theorem GoodL.good {n d : Nat} {ls : List (List (List Int))} (h : GoodL n d ls) (hn : 1 ≤ n) (hn7 : n ≤ 7) (hd : 1 ≤ d) (hd3 : d ≤ 3) (z : Nat) : Good n n (colRows ls d z) := by
  refine ⟨rfl, hn, by omega, by rw [colRows_len]; exact hd, by rw [colRows_len]; exact hd3, fun r hr => ?_⟩
  unfold colRows at hr
  obtain ⟨x, hx, rfl⟩ := List.mem_map.1 hr
  rw [List.mem_range] at hx
  refine ⟨by simp [h.len], fun y hy => ?_⟩
  obtain ⟨s, hs, rfl⟩ := List.mem_map.1 hy
  rw [List.mem_range, h.len] at hs
  obtain ⟨h1, h2⟩ := h.row s hs _ (h.pick z hs)
  exact h2 _ (mem_getD (by omega))

end Go.Proofs.Ytlgnbbfhejjodaa
