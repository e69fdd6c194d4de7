/- ReadChoice: what it answers, by the strict reading and by the loose one; the reference's function. -/
import Derived.Test.YtfdacodbiodiaaaGreatDoorRdAll
import Derived.Test.YtfdacodbiodiaaaGreatDoorReadAll
import Derived.Test.YtfdacodbiodiaaaGreatDoorChoiceText
import Derived.Test.YtfdacodbiodiaaaGreatDoorCubeMark
import Derived.Test.YtfdacodbiodiaaaGreatDoorChoiceOf
import Derived.Test.YtfdacodbiodiaaaGreatDoorSpecChoice
namespace Go.Proofs.YtfdacodbiodiaaaGreatDoor
set_option linter.unusedVariables false
set_option linter.unusedSimpArgs false
open Go.ChangeShapes Go.WideShapes Go.ChangeAt Go.RowKit

theorem join_joinL (c : UInt8) : ∀ (xs : List (List UInt8)), Lib.join xs [c] = joinL c xs
  | [] => rfl
  | [p] => Lib.join_one p [c]
  | p :: q :: ps => by
    rw [joinL_cons c p (by simp), ← join_joinL c (q :: ps)]
    simp [Lib.join, List.intercalate, List.intersperse]
theorem celC_G (zs : List Int) : celC zs = setG zs := by
  unfold celC setG
  by_cases h : zs.length = 0
  · rw [if_pos h, if_pos h]
  · rw [if_neg h, if_neg h]
    unfold jn
    rw [join_joinL, List.map_map]; rfl
theorem lineC_G (w : ByteArray) (zs : List (List Int)) : lineC w zs = lineG setG w zs := by
  have e : numC w zs = numG setG w zs := by
    unfold numC numG
    congr 1
    funext o z
    rw [celC_G]; rfl
  unfold lineC lineG
  rw [e]; rfl
theorem rowsC_G (o w : ByteArray) (xss : List (List (List Int))) : rowsC' o w xss = rowsG setG o w xss := by
  unfold rowsC' rowsG
  congr 1
  funext o r
  rw [lineC_G]
theorem choTx_G {st : Int} {xss : List (List (List Int))} (h : validC st xss = true) : choTx st xss = rowsG setG (lineG decG choG [st, xss.length]) letG xss := by
  unfold choTx
  rw [if_pos h, rowsC_G]; rfl
theorem goodC_mem {st : Int} {n : Nat} {xss : List (List (List Int))} (h : GoodC st n xss) : ∀ r ∈ xss, r.length = n ∧ ∀ s ∈ r, s.length ≤ n ∧ ∀ z ∈ s, 0 ≤ z ∧ z ≤ 10 := by
  intro r hr
  obtain ⟨k, hk, rfl⟩ := List.mem_iff_getElem.1 hr
  have e : xss.getD k [] = xss[k] := by simp [List.getD_eq_getElem?_getD, hk]
  have h2 := h.row k hk
  rw [e] at h2
  refine ⟨h2, fun s hs => ?_⟩
  obtain ⟨i, hi, rfl⟩ := List.mem_iff_getElem.1 hs
  have e2 : (xss.getD k []).getD i [] = (xss[k])[i] := by rw [e]; simp [List.getD_eq_getElem?_getD, hi]
  have h3 := h.len hk (show i < n by omega)
  have h4 := h.small hk (show i < n by omega)
  rw [e2] at h3 h4
  exact ⟨h3, h4⟩

/-- the state count, the rows, the code -/
def rcAns (t : ByteArray) : Int × List (List (List Int)) × Int :=
  if t.size ≤ 2000 then (if validC (choL t.data.toList).1 (choL t.data.toList).2 = true ∧ choTx (choL t.data.toList).1 (choL t.data.toList).2 = t then ((choL t.data.toList).1, (choL t.data.toList).2, 0) else (0, [], 5)) else (0, [], 2)
theorem rc_big {t : ByteArray} (h : ¬ t.size ≤ 2000) : rcAns t = (0, [], 2) := by unfold rcAns; rw [if_neg h]
theorem rc_yesL {t : ByteArray} (h : t.size ≤ 2000) {a : Int} {xss : List (List (List Int))} (hp : choL t.data.toList = (a, xss)) (hv : validC a xss = true) (ht : choTx a xss = t) : rcAns t = (a, xss, 0) := by
  unfold rcAns
  rw [if_pos h, hp, if_pos ⟨hv, ht⟩]
theorem rc_noL {t : ByteArray} (h : t.size ≤ 2000) {a : Int} {xss : List (List (List Int))} (hp : choL t.data.toList = (a, xss)) (hn : ¬ (validC a xss = true ∧ choTx a xss = t)) : rcAns t = (0, [], 5) := by
  unfold rcAns
  rw [if_pos h, hp, if_neg hn]
theorem cho_back {t : ByteArray} {a : Int} {xss : List (List (List Int))} (hv : validC a xss = true) (ht : choTx a xss = t) : choS t.data.toList = some (a, xss) ∧ choL t.data.toList = (a, xss) := by
  obtain ⟨n, g⟩ := goodC_of hv
  have h1 := g.st
  have h2 := g.lo
  have h3 := g.hi
  have h4 := g.len3
  have h := cho_read a xss (by omega) (by omega) (by omega) (fun r hr s hs => ((goodC_mem g r hr).2 s hs).2)
  rw [← ht, choTx_G hv]
  exact h
theorem rc_yesS {t : ByteArray} (h : t.size ≤ 2000) {a : Int} {xss : List (List (List Int))} (hv : validC a xss = true) (ht : choTx a xss = t) : rcAns t = (a, xss, 0) :=
  rc_yesL h (cho_back hv ht).2 hv ht
theorem rc_noS {t : ByteArray} (h : t.size ≤ 2000) (hn : ∀ a xss, choS t.data.toList = some (a, xss) → ¬ (validC a xss = true ∧ choTx a xss = t)) : rcAns t = (0, [], 5) := by
  obtain ⟨a, xss, hp⟩ : ∃ a xss, choL t.data.toList = (a, xss) := ⟨_, _, rfl⟩
  exact rc_noL h hp fun hh => hn a xss (cho_back hh.1 hh.2).1 hh
theorem bulk2_le2 {n : Nat} : ∀ (xss : List (List Int)), (∀ r ∈ xss, r.length ≤ n) → bulk2 xss ≤ n * xss.length
  | [], _ => by simp [bulk2]
  | r :: rs, h => by
    have h1 := bulk2_le2 rs (fun r hr' => h r (List.mem_cons_of_mem _ hr'))
    have h2 := h r (List.mem_cons_self ..)
    unfold bulk2 at h1 ⊢
    simp only [List.map_cons, List.sum_cons, List.length_cons]
    rw [Nat.mul_succ]
    omega
theorem bulkN_le2 {m : Nat} : ∀ (xss : List (List (List Int))), (∀ r ∈ xss, bulk2 r ≤ m) → bulkN xss ≤ m * xss.length
  | [], _ => by simp [bulkN]
  | r :: rs, h => by
    have h1 := bulkN_le2 rs (fun r hr' => h r (List.mem_cons_of_mem _ hr'))
    have h2 := h r (List.mem_cons_self ..)
    unfold bulkN at h1 ⊢
    simp only [List.map_cons, List.sum_cons, List.length_cons]
    rw [Nat.mul_succ]
    omega
theorem rc_bulk (t : ByteArray) : bulkN (rcAns t).2.1 ≤ 1000 := by
  unfold rcAns
  split
  · split
    · rename_i h
      obtain ⟨n, g⟩ := goodC_of h.1
      have h3 := g.len3
      have hn := g.hi
      have hb := bulkN_le2 (m := 100) (choL t.data.toList).2 (fun r hr => by
        have h1 := goodC_mem g r hr
        have h2 := bulk2_le2 r (fun s hs => (h1.2 s hs).1)
        have h4 : n * r.length ≤ 10 * 10 := Nat.mul_le_mul hn (by omega)
        omega)
      show bulkN (choL t.data.toList).2 ≤ 1000
      omega
    · simp [bulkN]
  · simp [bulkN]
def rowC (w : List (List UInt8)) : Option (List (List Int)) := allS setS (w.drop 1)
theorem choS_lines (t : List UInt8) : choS t = match linesS choG.data.toList t with
  | none => none
  | some (a, ws) => match allS rowC ws with
    | none => none
    | some xss => some (a, xss) := rfl

end Go.Proofs.YtfdacodbiodiaaaGreatDoor
