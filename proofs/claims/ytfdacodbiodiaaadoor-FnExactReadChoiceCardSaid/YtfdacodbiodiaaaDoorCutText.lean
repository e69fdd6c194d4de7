/- PLAIN: a text cut at a byte; strings.Split's pieces at a separator of one byte are these. -/
import Derived.Lib.Split
namespace Go.Proofs.YtfdacodbiodiaaaDoor
set_option linter.unusedVariables false
set_option linter.unusedSimpArgs false

/-- a text cut at every byte c -/
def cutL (c : UInt8) : List UInt8 → List (List UInt8)
  | [] => [[]]
  | x :: xs => if x = c then [] :: cutL c xs else
    match cutL c xs with
    | [] => [[x]]
    | p :: ps => (x :: p) :: ps

theorem cutL_ne (c : UInt8) (s : List UInt8) : cutL c s ≠ [] := by
  cases s with
  | nil => simp [cutL]
  | cons x xs =>
    unfold cutL
    split
    · simp
    · split <;> simp

theorem cutL_none (c : UInt8) : ∀ (a : List UInt8), c ∉ a → cutL c a = [a]
  | [], _ => rfl
  | x :: xs, h => by
    have h1 : ¬ x = c := fun e => h (by rw [e]; exact List.mem_cons_self ..)
    have h2 : c ∉ xs := fun e => h (List.mem_cons_of_mem _ e)
    unfold cutL
    rw [if_neg h1, cutL_none c xs h2]

theorem cutL_app (c : UInt8) : ∀ (a b : List UInt8), c ∉ a → cutL c (a ++ c :: b) = a :: cutL c b
  | [], b, _ => by
    show cutL c (c :: b) = _
    rw [cutL, if_pos rfl]
  | x :: xs, b, h => by
    have h1 : ¬ x = c := fun e => h (by rw [e]; exact List.mem_cons_self ..)
    have h2 : c ∉ xs := fun e => h (List.mem_cons_of_mem _ e)
    show cutL c (x :: (xs ++ c :: b)) = _
    rw [cutL, if_neg h1, cutL_app c xs b h2]

/-- the pieces joined again -/
def joinL (c : UInt8) : List (List UInt8) → List UInt8
  | [] => []
  | [p] => p
  | p :: q :: ps => p ++ c :: joinL c (q :: ps)

theorem joinL_cons (c : UInt8) (p : List UInt8) {ps : List (List UInt8)} (h : ps ≠ []) : joinL c (p :: ps) = p ++ c :: joinL c ps := by
  cases ps with
  | nil => exact absurd rfl h
  | cons q qs => rfl

theorem joinL_cutL (c : UInt8) : ∀ (s : List UInt8), joinL c (cutL c s) = s
  | [] => rfl
  | x :: xs => by
    have ih := joinL_cutL c xs
    have hne := cutL_ne c xs
    unfold cutL
    split
    · rename_i e
      rw [joinL_cons c _ hne, ih, e]; rfl
    · cases hc : cutL c xs with
      | nil => exact absurd hc hne
      | cons p ps =>
        rw [hc] at ih
        cases ps with
        | nil => simp only [joinL] at ih ⊢; rw [ih]
        | cons q qs => simp only [joinL] at ih ⊢; rw [← ih]; rfl

theorem cutL_free (c : UInt8) : ∀ (s : List UInt8) (p : List UInt8), p ∈ cutL c s → c ∉ p
  | [], p, h => by
    have : p = [] := by simpa [cutL] using h
    subst this; simp
  | x :: xs, p, h => by
    have ih := cutL_free c xs
    unfold cutL at h
    split at h
    · rcases List.mem_cons.1 h with h | h
      · subst h; simp
      · exact ih p h
    · rename_i hx
      split at h
      · have : p = [x] := by simpa using h
        subst this; simp; exact fun e => hx e.symm
      · rename_i q qs hc
        rw [hc] at ih
        rcases List.mem_cons.1 h with h | h
        · subst h
          intro hm
          rcases List.mem_cons.1 hm with e | e
          · exact hx e.symm
          · exact ih q (List.mem_cons_self ..) e
        · exact ih p (List.mem_cons_of_mem _ h)

/-- pieces free of c, joined and cut: the same -/
theorem cutL_joinL (c : UInt8) : ∀ (ps : List (List UInt8)), ps ≠ [] → (∀ p ∈ ps, c ∉ p) → cutL c (joinL c ps) = ps
  | [], h, _ => absurd rfl h
  | [p], _, h => cutL_none c p (h p (List.mem_cons_self ..))
  | p :: q :: ps, _, h => by
    rw [joinL_cons c p (by simp), cutL_app c _ _ (h p (List.mem_cons_self ..)), cutL_joinL c (q :: ps) (by simp) (fun r hr => h r (List.mem_cons_of_mem _ hr))]

theorem index_one (c b : UInt8) (l : List UInt8) : Lib.index (b :: l) [c] = if b = c then 0 else if Lib.index l [c] = -1 then -1 else Lib.index l [c] + 1 := by
  rw [Lib.index]
  by_cases h : b = c
  · rw [if_pos h, if_pos (by simp [h])]
  · rw [if_neg h, if_neg (by simp; exact fun e => h e.symm)]
    by_cases h2 : Lib.index l [c] = -1
    · rw [if_pos h2, if_pos (by simp [h2])]
    · rw [if_neg h2, if_neg (by simpa using h2)]

theorem index_one_cases (c : UInt8) : ∀ (s : List UInt8), (Lib.index s [c] = -1 ∧ c ∉ s) ∨ (∃ a b, s = a ++ c :: b ∧ c ∉ a ∧ Lib.index s [c] = (a.length : Int))
  | [] => Or.inl ⟨by simp [Lib.index], by simp⟩
  | x :: xs => by
    rw [index_one]
    by_cases h : x = c
    · exact Or.inr ⟨[], xs, by rw [h]; rfl, by simp, by rw [if_pos h]; rfl⟩
    · rw [if_neg h]
      rcases index_one_cases c xs with ⟨e, hn⟩ | ⟨a, b, es, ha, ei⟩
      · refine Or.inl ⟨by rw [if_pos e], ?_⟩
        intro hm
        rcases List.mem_cons.1 hm with e | e
        · exact h e.symm
        · exact hn e
      · refine Or.inr ⟨x :: a, b, by rw [es]; rfl, ?_, ?_⟩
        · intro hm
          rcases List.mem_cons.1 hm with e | e
          · exact h e.symm
          · exact ha e
        · rw [if_neg (by rw [ei]; omega), ei, List.length_cons]; push_cast; rfl

theorem splitK_cut (c : UInt8) : ∀ (n : Nat) (s : List UInt8), s.length < n → Lib.splitK [c] 0 (Lib.count s [c]) s = cutL c s
  | 0, s, h => absurd h (by omega)
  | n + 1, s, h => by
    rcases index_one_cases c s with ⟨e, hn⟩ | ⟨a, b, es, ha, ei⟩
    · rw [Lib.count_miss e, cutL_none c s hn]; rfl
    · have hd : s.drop (a.length + [c].length) = b := by
        rw [es]; show (a ++ c :: b).drop (a.length + 1) = b; simp
      have ht : s.take (a.length + 0) = a := by rw [es]; simp
      have hb : b.length < n := by
        have := congrArg List.length es
        simp at this; omega
      rw [Lib.count_hit (by simp) ei, hd, Nat.add_comm 1, Lib.splitK, if_neg (by rw [ei]; simp), ei]
      rw [show ((a.length : Int)).toNat = a.length from rfl, ht, hd, splitK_cut c n b hb, es, cutL_app c a b ha]

/-- strings.Split's pieces at one byte, as lists of bytes -/
theorem splitB_cut (c : UInt8) (sep s : ByteArray) (hs : sep.data.toList = [c]) :
    (Lib.splitB sep 0 (Lib.count s.data.toList sep.data.toList) s).map (·.data.toList) = cutL c s.data.toList := by
  rw [Lib.splitB_data, hs]
  exact splitK_cut c _ _ (Nat.lt_succ_self _)
end Go.Proofs.YtfdacodbiodiaaaDoor
