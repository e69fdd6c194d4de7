/- The gaps are what is missing in a filling: plain facts. -/
import Derived.Test.YtfdacodbiodiaaaGreatDoorFillBoth
import Derived.Test.YtfdacodbiodiaaaGreatDoorRdAll
namespace Go.Proofs.YtfdacodbiodiaaaGreatDoor
set_option linter.unusedVariables false
set_option linter.unusedSimpArgs false
open Go.RowKit

def cel (F : List (List Int)) (k s : Nat) : Int := (F.getD k []).getD s 0
theorem gapRow_snoc (l : Nat) (row : List Int) (s : Nat) : gapRow l row (s + 1) = gapRow l row s ++ (if row.getD s 0 < 0 then [((l : Int), (s : Int))] else []) := by
  rw [gapRow_succ]
  by_cases h : row.getD s 0 < 0
  · rw [if_pos h, if_pos h]
  · rw [if_neg h, if_neg h, List.append_nil]
theorem gapsAt_succ (xss : List (List Int)) (k s : Nat) : gapsAt xss k (s + 1) = gapsAt xss k s ++ (if cel xss k s < 0 then [((k : Int), (s : Int))] else []) := by
  unfold gapsAt
  rw [gapRow_snoc, List.append_assoc]; rfl
theorem gapsTo_pre (xss : List (List Int)) (k : Nat) : ∀ m, ∃ R, gapsTo xss (k + m) = gapsTo xss k ++ R
  | 0 => ⟨[], by simp⟩
  | m + 1 => by
    obtain ⟨R, h⟩ := gapsTo_pre xss k m
    refine ⟨R ++ gapRow (k + m) (xss.getD (k + m) []) (xss.getD (k + m) []).length, ?_⟩
    rw [← Nat.add_assoc, gapsTo_succ]
    unfold gapsAt
    rw [h, List.append_assoc]
theorem gapRow_pre (l : Nat) (row : List Int) (s : Nat) : ∀ m, ∃ R, gapRow l row (s + m) = gapRow l row s ++ R
  | 0 => ⟨[], by simp⟩
  | m + 1 => by
    obtain ⟨R, h⟩ := gapRow_pre l row s m
    refine ⟨R ++ (if row.getD (s + m) 0 < 0 then [((l : Int), ((s + m : Nat) : Int))] else []), ?_⟩
    rw [← Nat.add_assoc, gapRow_snoc, h, List.append_assoc]
theorem gapsAt_pre {xss : List (List Int)} {k s : Nat} (hk : k < xss.length) (hs : s ≤ (xss.getD k []).length) : ∃ R, gapsOf xss = gapsAt xss k s ++ R := by
  obtain ⟨R1, h1⟩ := gapsTo_pre xss (k + 1) (xss.length - (k + 1))
  obtain ⟨R2, h2⟩ := gapRow_pre k (xss.getD k []) s ((xss.getD k []).length - s)
  rw [show k + 1 + (xss.length - (k + 1)) = xss.length by omega] at h1
  rw [show s + ((xss.getD k []).length - s) = (xss.getD k []).length by omega] at h2
  refine ⟨R2 ++ R1, ?_⟩
  unfold gapsOf
  rw [h1, gapsTo_succ]
  unfold gapsAt
  rw [h2]
  simp [List.append_assoc]
/-- where a gap stands in the list -/
theorem gap_at {xss : List (List Int)} {k s : Nat} (hk : k < xss.length) (hs : s < (xss.getD k []).length) (h : cel xss k s < 0) : (gapsAt xss k s).length < (gapsOf xss).length ∧ (gapsOf xss).getD (gapsAt xss k s).length (0, 0) = ((k : Int), (s : Int)) := by
  obtain ⟨R, hR⟩ := gapsAt_pre hk (show s + 1 ≤ _ from hs)
  rw [gapsAt_succ, if_pos h] at hR
  rw [hR]
  refine ⟨by simp, ?_⟩
  simp [List.getD_eq_getElem?_getD]
theorem cel_putAt {F : List (List Int)} {k s : Nat} {z : Int} (hk : k < F.length) (hs : s < (F.getD k []).length) (k' s' : Nat) : cel (putAt F k s z) k' s' = if k' = k ∧ s' = s then z else cel F k' s' := by
  unfold cel putAt
  by_cases h1 : k' = k
  · subst h1
    rw [getD_set_same _ _ _ _ hk]
    by_cases h2 : s' = s
    · subst h2
      rw [if_pos ⟨rfl, rfl⟩, getD_set_same _ _ _ _ hs]
    · rw [if_neg (fun h => h2 h.2), getD_set_other _ _ _ _ _ h2]
  · rw [if_neg (fun h => h1 h.1), getD_set_other _ _ _ _ _ h1]
def due (xss : List (List Int)) (zs : List Int) (k s : Nat) : Int := if cel xss k s < 0 then zs.getD (gapsAt xss k s).length 0 else cel xss k s
theorem fill_upto {st : Int} {n : Nat} {xss : List (List Int)} (hg : GoodP st n xss) (zs : List Int) (k : Nat) : k ≤ xss.length → ∀ k' s', s' < n → cel (fillTo xss zs (gapsTo xss k).length) k' s' = if k' < k then due xss zs k' s' else cel xss k' s' := by
  induction k with
  | zero =>
    intro _ k' s' _
    rw [if_neg (by omega)]
    simp [gapsTo, fillTo]
  | succ k ih =>
    intro hk k' s' hs'
    have hkl : k < xss.length := by omega
    have hrow := hg.row hkl
    have inner : ∀ s, s ≤ n → ∀ k' s', s' < n → cel (fillTo xss zs (gapsAt xss k s).length) k' s' = if k' < k ∨ (k' = k ∧ s' < s) then due xss zs k' s' else cel xss k' s' := by
      intro s
      induction s with
      | zero =>
        intro _ k' s' hs'
        rw [gapsAt_zero, ih (by omega) k' s' hs']
        by_cases h : k' < k
        · rw [if_pos h, if_pos (.inl h)]
        · rw [if_neg h, if_neg (by omega)]
      | succ s ihs =>
        intro hsn k' s' hs'
        have hsl : s < (xss.getD k []).length := by omega
        by_cases hgap : cel xss k s < 0
        · obtain ⟨h1, h2⟩ := gap_at hkl hsl hgap
          rw [gapsAt_succ, if_pos hgap, List.length_append, List.length_singleton, fillTo_succ, h2]
          show cel (putAt _ ((k : Nat) : Int).toNat ((s : Nat) : Int).toNat _) k' s' = _
          rw [Int.toNat_natCast, Int.toNat_natCast, cel_putAt (by rw [fillTo_len]; exact hkl) (by rw [fillTo_row]; exact hsl)]
          by_cases he : k' = k ∧ s' = s
          · obtain ⟨rfl, rfl⟩ := he
            rw [if_pos ⟨rfl, rfl⟩, if_pos (.inr ⟨rfl, by omega⟩)]
            unfold due
            rw [if_pos hgap]
          · rw [if_neg he, ihs (by omega) k' s' hs']
            by_cases h : k' < k ∨ (k' = k ∧ s' < s)
            · rw [if_pos h, if_pos (by omega)]
            · rw [if_neg h, if_neg (by omega)]
        · rw [gapsAt_succ, if_neg hgap, List.append_nil, ihs (by omega) k' s' hs']
          by_cases h : k' < k ∨ (k' = k ∧ s' < s)
          · rw [if_pos h, if_pos (by omega)]
          · rw [if_neg h]
            by_cases h2 : k' < k ∨ (k' = k ∧ s' < s + 1)
            · rw [if_pos h2]
              have e1 : k' = k := by omega
              have e2 : s' = s := by omega
              subst e1; subst e2
              unfold due
              rw [if_neg hgap]
            · rw [if_neg h2]
    rw [gapsTo_succ, hrow, inner n (Nat.le_refl _) k' s' hs']
    by_cases h : k' < k + 1
    · rw [if_pos h, if_pos (by omega)]
    · rw [if_neg h, if_neg (by omega)]
/-- a filling's cells -/
theorem fill_due {st : Int} {n : Nat} {xss : List (List Int)} (hg : GoodP st n xss) (zs : List Int) {k s : Nat} (hk : k < xss.length) (hs : s < n) : cel (fillTo xss zs (gapsOf xss).length) k s = due xss zs k s := by
  have h := fill_upto hg zs xss.length (Nat.le_refl _) k s hs
  rw [if_pos hk] at h
  exact h
theorem partTx_size (st : Int) (xss : List (List Int)) : (partTx st xss).size ≤ 2000 := by
  unfold partTx
  split
  · rename_i h
    obtain ⟨n, g⟩ := goodPT_of h
    have h1 := rowsU_size (n := n) letterW xss (fun r hr => by have := (g.rows r hr).1; omega) (lineB partW [st, xss.length])
    have h2 := lineB_size partW [st, (xss.length : Int)]
    have h3 : partW.size = 7 := rfl
    have h4 : letterW.size = 6 := rfl
    have h5 := g.len3
    have h6 := g.hi
    have h7 : xss.length * (letterW.size + 3 * n + 1) ≤ 3 * 40 := Nat.mul_le_mul h5 (by omega)
    simp at h2
    omega
  · exact Nat.zero_le _
end Go.Proofs.YtfdacodbiodiaaaGreatDoor
