/- ReadPartial: what it answers, by the strict reading and by the loose one. -/
import Derived.Test.YtfdacodbiodiaaaDoorPartText
import Derived.Test.YtfdacodbiodiaaaDoorReadLaw
namespace Go.Proofs.YtfdacodbiodiaaaDoor
set_option linter.unusedVariables false
set_option linter.unusedSimpArgs false
open Go.RowKit

theorem lineG_dec (w : ByteArray) (zs : List Int) : lineG decG w zs = lineB w zs := rfl
theorem celP_G (z : Int) : celP z = spG ++ celG z := by
  unfold celP celG
  by_cases h : z < 0
  · rw [if_pos h, if_pos h]; decide +kernel
  · rw [if_neg h, if_neg h]; rfl
theorem lineP_G (w : ByteArray) (zs : List Int) : lineP w zs = lineG celG w zs := by
  have e : numP w zs = numG celG w zs := by
    unfold numP numG
    congr 1
    funext o z
    rw [celP_G]
  unfold lineP lineG
  rw [e]; rfl
theorem rowsU_G (o w : ByteArray) (xss : List (List Int)) : rowsU o w xss = rowsG celG o w xss := by
  unfold rowsU rowsG
  congr 1
  funext o r
  rw [lineP_G]
theorem partTx_G {st : Int} {xss : List (List Int)} (h : validP st xss = true) : partTx st xss = rowsG celG (lineG decG parG [st, xss.length]) letG xss := by
  unfold partTx
  rw [if_pos h, rowsU_G]; rfl

/-- the state count, the rows, the code -/
def rpAns (t : ByteArray) : Int × List (List Int) × Int :=
  if t.size ≤ 2000 then (if validP (partL t.data.toList).1 (partL t.data.toList).2 = true ∧ partTx (partL t.data.toList).1 (partL t.data.toList).2 = t then ((partL t.data.toList).1, (partL t.data.toList).2, 0) else (0, [], 5)) else (0, [], 2)
theorem rp_big {t : ByteArray} (h : ¬ t.size ≤ 2000) : rpAns t = (0, [], 2) := by unfold rpAns; rw [if_neg h]
theorem rp_yesL {t : ByteArray} (h : t.size ≤ 2000) {a : Int} {xss : List (List Int)} (hp : partL t.data.toList = (a, xss)) (hv : validP a xss = true) (ht : partTx a xss = t) : rpAns t = (a, xss, 0) := by
  unfold rpAns
  rw [if_pos h, hp, if_pos ⟨hv, ht⟩]
theorem rp_noL {t : ByteArray} (h : t.size ≤ 2000) {a : Int} {xss : List (List Int)} (hp : partL t.data.toList = (a, xss)) (hn : ¬ (validP a xss = true ∧ partTx a xss = t)) : rpAns t = (0, [], 5) := by
  unfold rpAns
  rw [if_pos h, hp, if_neg hn]
theorem part_back {t : ByteArray} {a : Int} {xss : List (List Int)} (hv : validP a xss = true) (ht : partTx a xss = t) : partS t.data.toList = some (a, xss) ∧ partL t.data.toList = (a, xss) := by
  obtain ⟨n, g⟩ := goodP_of hv
  have h1 := g.st
  have h2 := g.lo
  have h3 := g.hi
  have h4 := g.len3
  have h := part_read a xss (by omega) (by omega) (by omega) (fun r hr z hz => by have := (g.rows r hr).2 z hz; omega)
  rw [← ht, partTx_G hv]
  exact h
theorem rp_yesS {t : ByteArray} (h : t.size ≤ 2000) {a : Int} {xss : List (List Int)} (hv : validP a xss = true) (ht : partTx a xss = t) : rpAns t = (a, xss, 0) :=
  rp_yesL h (part_back hv ht).2 hv ht
theorem rp_noS {t : ByteArray} (h : t.size ≤ 2000) (hn : ∀ a xss, partS t.data.toList = some (a, xss) → ¬ (validP a xss = true ∧ partTx a xss = t)) : rpAns t = (0, [], 5) := by
  obtain ⟨a, xss, hp⟩ : ∃ a xss, partL t.data.toList = (a, xss) := ⟨_, _, rfl⟩
  exact rp_noL h hp fun hh => hn a xss (part_back hh.1 hh.2).1 hh
theorem rp_rows (t : ByteArray) : (rpAns t).2.1.length + bulk2 (rpAns t).2.1 ≤ 33 := by
  unfold rpAns
  split
  · split
    · rename_i h
      obtain ⟨n, g⟩ := goodP_of h.1
      have h3 := g.len3
      have hb : bulk2 (partL t.data.toList).2 ≤ 10 * (partL t.data.toList).2.length := by
        have hr := g.rows
        have hn := g.hi
        generalize (partL t.data.toList).2 = xss at hr
        clear g h h3
        induction xss with
        | nil => simp [bulk2]
        | cons r rs ih =>
          have h1 := ih (fun r hr' => hr r (List.mem_cons_of_mem _ hr'))
          have h2 := (hr r (List.mem_cons_self ..)).1
          unfold bulk2 at h1 ⊢
          simp only [List.map_cons, List.sum_cons, List.length_cons]
          omega
      show (partL t.data.toList).2.length + bulk2 (partL t.data.toList).2 ≤ 33
      omega
    · simp [bulk2]
  · simp [bulk2]

theorem allS_snoc {α β : Type} {f : α → Option β} : ∀ (l : List α) (ys : List β) (x : α) (y : β), allS f l = some ys → f x = some y → allS f (l ++ [x]) = some (ys ++ [y])
  | [], ys, x, y, h, hy => by
    have : ys = [] := by simpa [allS] using h.symm
    subst this
    simp [allS, hy]
  | a :: l, ys, x, y, h, hy => by
    rw [List.cons_append, allS]
    rw [allS] at h
    cases e : f a with
    | none => rw [e] at h; cases h
    | some b =>
      rw [e] at h
      simp only [] at h ⊢
      cases e2 : allS f l with
      | none => rw [e2] at h; cases h
      | some zs =>
        rw [e2] at h
        rw [allS_snoc l zs x y e2 hy]
        simp only [] at h ⊢
        injection h with h
        rw [← h]; rfl
theorem allS_mem_none {α β : Type} {f : α → Option β} : ∀ (l : List α) (x : α), x ∈ l → f x = none → allS f l = none
  | a :: l, x, hx, hn => by
    rw [allS]
    cases e : f a with
    | none => rfl
    | some b =>
      simp only []
      rcases List.mem_cons.1 hx with h | h
      · subst h; rw [hn] at e; cases e
      · rw [allS_mem_none l x h hn]
end Go.Proofs.YtfdacodbiodiaaaDoor
