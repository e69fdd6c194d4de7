/- All gaps filled by one number: the plain law. -/
import Derived.Test.YtinkjoecadnlbaaFill
namespace Go.Proofs.Ytinkjoecadnlbaa
set_option linter.unusedVariables false
set_option linter.unusedSimpArgs false
open Go.ChangeShapes Go.WideShapes Go.ChangeAt Go.RowKit

theorem mem_gapsOf {xss : List (List Int)} {l s : Nat} : ((l : Int), (s : Int)) ∈ gapsOf xss ↔ l < xss.length ∧ s < (xss.getD l []).length ∧ (xss.getD l []).getD s 0 < 0 := by
  unfold gapsOf gapsTo
  rw [List.mem_flatten]
  constructor
  · rintro ⟨L, hL, hx⟩
    rw [List.mem_map] at hL
    obtain ⟨l', hl, rfl⟩ := hL
    rw [List.mem_range] at hl
    unfold gapRow at hx
    rw [List.mem_map] at hx
    obtain ⟨s', hs, he⟩ := hx
    rw [List.mem_filter, List.mem_range] at hs
    have e1 : l' = l := by have := congrArg Prod.fst he; dsimp only at this; omega
    have e2 : s' = s := by have := congrArg Prod.snd he; dsimp only at this; omega
    subst e1 e2
    exact ⟨hl, hs.1, of_decide_eq_true hs.2⟩
  · rintro ⟨h1, h2, h3⟩
    refine ⟨gapRow l (xss.getD l []) (xss.getD l []).length, List.mem_map.2 ⟨l, List.mem_range.2 h1, rfl⟩, ?_⟩
    unfold gapRow
    exact List.mem_map.2 ⟨s, List.mem_filter.2 ⟨List.mem_range.2 h2, decide_eq_true h3⟩, rfl⟩

theorem putAt_same {rows : List (List Int)} {l s : Nat} {z : Int} (hl : l < rows.length) (hs : s < (rows.getD l []).length) : ((putAt rows l s z).getD l []).getD s 0 = z := by
  unfold putAt
  rw [getD_set_same _ _ _ _ hl, getD_set_same _ _ _ _ hs]
theorem putAt_other {rows : List (List Int)} {l s j t : Nat} {z : Int} (h : ¬ (j = l ∧ t = s)) : ((putAt rows l s z).getD j []).getD t 0 = (rows.getD j []).getD t 0 := by
  unfold putAt
  by_cases hj : j = l
  · subst hj
    have ht : t ≠ s := fun e => h ⟨rfl, e⟩
    by_cases hl : j < rows.length
    · rw [getD_set_same _ _ _ _ hl, getD_set_other _ _ _ _ _ ht]
    · rw [List.set_eq_of_length_le (by omega)]
  · rw [getD_set_other _ _ _ _ _ hj]

theorem fillTo_get {st : Int} {n : Nat} {xss : List (List Int)} (hg : GoodP st n xss) (zs : List Int) (c : Int) : ∀ k, k ≤ (gapsOf xss).length → (∀ i, i < k → zs.getD i 0 = c) → ∀ l s : Nat, l < xss.length → s < n →
    ((∃ i, i < k ∧ (gapsOf xss).getD i (0, 0) = ((l : Int), (s : Int))) → ((fillTo xss zs k).getD l []).getD s 0 = c) ∧ ((¬ ∃ i, i < k ∧ (gapsOf xss).getD i (0, 0) = ((l : Int), (s : Int))) → ((fillTo xss zs k).getD l []).getD s 0 = (xss.getD l []).getD s 0) := by
  intro k
  induction k with
  | zero => intro _ _ l s _ _; exact ⟨fun ⟨i, hi, _⟩ => absurd hi (by omega), fun _ => rfl⟩
  | succ k ih =>
    intro hk hz l s hl hs
    obtain ⟨ih1, ih2⟩ := ih (by omega) (fun i hi => hz i (by omega)) l s hl hs
    obtain ⟨l', s', he, hl', hs'⟩ := gapsOf_mem hg (q := k) (by omega)
    rw [fillTo_succ, he, hz k (by omega)]
    simp only [Int.toNat_natCast]
    by_cases hh : l = l' ∧ s = s'
    · obtain ⟨rfl, rfl⟩ := hh
      have hv := putAt_same (rows := fillTo xss zs k) (l := l) (s := s) (z := c) (by rw [fillTo_len]; exact hl) (by rw [fillTo_row, hg.row hl]; exact hs)
      exact ⟨fun _ => hv, fun hn => absurd ⟨k, by omega, he⟩ hn⟩
    · rw [putAt_other hh]
      refine ⟨fun ⟨i, hi, hi2⟩ => ih1 ⟨i, ?_, hi2⟩, fun hn => ih2 fun ⟨i, hi, hi2⟩ => hn ⟨i, by omega, hi2⟩⟩
      rcases Nat.lt_or_ge i k with h | h
      · exact h
      · obtain rfl : i = k := by omega
        rw [he] at hi2
        have e1 := congrArg Prod.fst hi2
        have e2 := congrArg Prod.snd hi2
        dsimp only at e1 e2
        exact absurd ⟨by omega, by omega⟩ hh

theorem eq_of_getD {a b : List Int} (hl : a.length = b.length) (h : ∀ s, s < a.length → a.getD s 0 = b.getD s 0) : a = b :=
  List.ext_getElem hl fun i h1 h2 => by
    have := h i h1
    rw [List.getD_eq_getElem?_getD, List.getD_eq_getElem?_getD, List.getElem?_eq_getElem h1, List.getElem?_eq_getElem h2] at this
    exact this
theorem map_getD {f : Int → Int} {r : List Int} {s : Nat} (h : s < r.length) : (r.map f).getD s 0 = f (r.getD s 0) := by
  rw [List.getD_eq_getElem?_getD, List.getD_eq_getElem?_getD, List.getElem?_map, List.getElem?_eq_getElem h]
  rfl
/-- the rows with one number for all gaps -/
def trapRow (c : Int) (r : List Int) : List Int := r.map fun z => if z < 0 then c else z
theorem fillTo_all {st : Int} {n : Nat} {xss : List (List Int)} (hg : GoodP st n xss) (zs : List Int) (c : Int) (hz : ∀ i, i < (gapsOf xss).length → zs.getD i 0 = c) : fillTo xss zs (gapsOf xss).length = xss.map (trapRow c) := by
  apply List.ext_getElem
  · rw [fillTo_len, List.length_map]
  · intro l h1 h2
    have hl : l < xss.length := by rw [fillTo_len] at h1; exact h1
    have er := fillTo_row xss zs (gapsOf xss).length l
    rw [hg.row hl] at er
    have e1 : (fillTo xss zs (gapsOf xss).length)[l] = (fillTo xss zs (gapsOf xss).length).getD l [] := by simp [List.getD_eq_getElem?_getD, h1]
    have e2 : xss[l] = xss.getD l [] := by simp [List.getD_eq_getElem?_getD, hl]
    rw [List.getElem_map, e1, e2]
    refine eq_of_getD (by rw [er, trapRow, List.length_map, hg.row hl]) fun s h3 => ?_
    · have hs : s < n := by omega
      have hs2 : s < (xss.getD l []).length := by rw [hg.row hl]; exact hs
      obtain ⟨f1, f2⟩ := fillTo_get hg zs c _ (Nat.le_refl _) hz l s hl hs
      rw [trapRow, map_getD hs2]
      by_cases hneg : (xss.getD l []).getD s 0 < 0
      · rw [if_pos hneg]
        refine f1 ?_
        have hm := mem_gapsOf.2 ⟨hl, hs2, hneg⟩
        obtain ⟨i, hi, hie⟩ := List.getElem_of_mem hm
        exact ⟨i, hi, by rw [List.getD_eq_getElem?_getD, List.getElem?_eq_getElem hi]; exact hie⟩
      · rw [if_neg hneg]
        refine f2 fun ⟨i, hi, hie⟩ => hneg ?_
        have hm : (gapsOf xss).getD i (0, 0) ∈ gapsOf xss := by rw [List.getD_eq_getElem?_getD, List.getElem?_eq_getElem hi]; exact List.getElem_mem hi
        rw [hie] at hm
        exact (mem_gapsOf.1 hm).2.2

end Go.Proofs.Ytinkjoecadnlbaa
