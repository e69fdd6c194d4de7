/- ReadAutomaton: what it answers, by the strict reading and by the loose one. -/
import Derived.Test.YtfdacodbiodiaaaDoorRdPart
import Derived.Test.YtfdacodbiodiaaaDoorReadAuto
import Derived.Test.YtfdacodbiodiaaaDoorLinesS
namespace Go.Proofs.YtfdacodbiodiaaaDoor
set_option linter.unusedVariables false
set_option linter.unusedSimpArgs false
open Go.RowKit

theorem autoTx_G {st : Int} {xss : List (List Int)} (h : validB st xss = true) : autoTx st xss = rowsG decG (lineG decG autG [st, xss.length]) letG xss := by
  unfold autoTx
  rw [if_pos h]; rfl
theorem good_mem {st : Int} {n : Nat} {xss : List (List Int)} (h : Good st n xss) : ∀ r ∈ xss, r.length = n ∧ ∀ z ∈ r, 0 ≤ z ∧ z ≤ 10 := by
  intro r hr
  obtain ⟨k, hk, rfl⟩ := List.mem_iff_getElem.1 hr
  have e : xss.getD k [] = xss[k] := by simp [List.getD_eq_getElem?_getD, hk]
  have h1 := h.small hk
  have h2 := (h.rows.row hk).1
  rw [e] at h1 h2
  exact ⟨h2, h1⟩

/-- the state count, the rows, the code -/
def raAns (t : ByteArray) : Int × List (List Int) × Int :=
  if t.size ≤ 2000 then (if validB (autL t.data.toList).1 (autL t.data.toList).2 = true ∧ autoTx (autL t.data.toList).1 (autL t.data.toList).2 = t then ((autL t.data.toList).1, (autL t.data.toList).2, 0) else (0, [], 5)) else (0, [], 2)
theorem ra_big {t : ByteArray} (h : ¬ t.size ≤ 2000) : raAns t = (0, [], 2) := by unfold raAns; rw [if_neg h]
theorem ra_yesL {t : ByteArray} (h : t.size ≤ 2000) {a : Int} {xss : List (List Int)} (hp : autL t.data.toList = (a, xss)) (hv : validB a xss = true) (ht : autoTx a xss = t) : raAns t = (a, xss, 0) := by
  unfold raAns
  rw [if_pos h, hp, if_pos ⟨hv, ht⟩]
theorem ra_noL {t : ByteArray} (h : t.size ≤ 2000) {a : Int} {xss : List (List Int)} (hp : autL t.data.toList = (a, xss)) (hn : ¬ (validB a xss = true ∧ autoTx a xss = t)) : raAns t = (0, [], 5) := by
  unfold raAns
  rw [if_pos h, hp, if_neg hn]
theorem auto_back {t : ByteArray} {a : Int} {xss : List (List Int)} (hv : validB a xss = true) (ht : autoTx a xss = t) : autS t.data.toList = some (a, xss) ∧ autL t.data.toList = (a, xss) := by
  obtain ⟨n, g⟩ := good_of hv
  have h1 := g.st
  have h2 := g.lo
  have h3 := g.hi
  have h4 := g.len3
  have h := auto_read a xss (by omega) (by omega) (by omega) (fun r hr => (good_mem g r hr).2)
  rw [← ht, autoTx_G hv]
  exact h
theorem ra_yesS {t : ByteArray} (h : t.size ≤ 2000) {a : Int} {xss : List (List Int)} (hp : autS t.data.toList = some (a, xss)) (hv : validB a xss = true) : raAns t = (a, xss, 0) := by
  obtain ⟨n, g⟩ := good_of hv
  have h1 := g.st
  have h3 := g.hi
  have h4 := g.len3
  have e := auto_text t.data.toList a xss hp (by omega) (by omega) (fun r hr z hz => ((good_mem g r hr).2 z hz).2)
  rw [← autoTx_G hv] at e
  have ht : autoTx a xss = t := (bytes_eq e).symm
  exact ra_yesL h (auto_back hv ht).2 hv ht
theorem ra_noS {t : ByteArray} (h : t.size ≤ 2000) (hn : ∀ a xss, autS t.data.toList = some (a, xss) → ¬ validB a xss = true) : raAns t = (0, [], 5) := by
  obtain ⟨a, xss, hp⟩ : ∃ a xss, autL t.data.toList = (a, xss) := ⟨_, _, rfl⟩
  exact ra_noL h hp fun hh => hn a xss (auto_back hh.1 hh.2).1 hh.1
theorem bulk_rows {n : Nat} : ∀ (xss : List (List Int)), (∀ r ∈ xss, r.length = n) → bulk2 xss = n * xss.length
  | [], _ => by simp [bulk2]
  | r :: rs, h => by
    have h1 := bulk_rows rs (fun r hr' => h r (List.mem_cons_of_mem _ hr'))
    have h2 := h r (List.mem_cons_self ..)
    unfold bulk2 at h1 ⊢
    simp only [List.map_cons, List.sum_cons, List.length_cons]
    rw [h1, h2, Nat.mul_succ, Nat.add_comm]
theorem ra_rows (t : ByteArray) : (raAns t).2.1.length + bulk2 (raAns t).2.1 ≤ 33 := by
  unfold raAns
  split
  · split
    · rename_i h
      obtain ⟨n, g⟩ := good_of h.1
      have h3 := g.len3
      have hn := g.hi
      have hb := bulk_rows _ (fun r hr => (good_mem g r hr).1)
      have : n * (autL t.data.toList).2.length ≤ 10 * 3 := Nat.mul_le_mul hn h3
      show (autL t.data.toList).2.length + bulk2 (autL t.data.toList).2 ≤ 33
      omega
    · simp [bulk2]
  · simp [bulk2]

/-- the reference's rows of lines -/
def midB (ls : List ByteArray) : List (List UInt8) := ((ls.drop 1).dropLast).map (fun (b : ByteArray) => b.data.toList)
theorem midB_len (ls : List ByteArray) : (midB ls).length = ls.length - 2 := by
  unfold midB
  rw [List.length_map, List.length_dropLast, List.length_drop]
  omega
theorem midB_step {ls : List ByteArray} {k : Nat} (h1 : 1 ≤ k) (h : k + 1 < ls.length) : (midB ls).take k = (midB ls).take (k - 1) ++ [(ls[k]'(by omega)).data.toList] := by
  have e2 : (midB ls)[k - 1]? = some (ls[k]'(by omega)).data.toList := by
    unfold midB
    rw [List.getElem?_map, List.dropLast_eq_take, List.getElem?_take, if_pos (by rw [List.length_drop]; omega), List.getElem?_drop, show 1 + (k - 1) = k by omega, List.getElem?_eq_getElem (by omega)]
    rfl
  have e := List.take_add_one (l := midB ls) (i := k - 1)
  rw [show k - 1 + 1 = k by omega, e2] at e
  exact e
theorem last_of {s : ByteArray} {ls : List ByteArray} (h1 : CutOf 10 s ls) : (cutL 10 s.data.toList).getLast (cutL_ne 10 _) = (ls[ls.length - 1]'(by have := h1.pos; omega)).data.toList := by
  have hp := h1.pos
  rw [List.getLast_eq_getElem]
  have e := h1.eq
  have : ∀ (L : List (List UInt8)) (hL : L = ls.map (·.data.toList)) (q : L.length - 1 < L.length), L[L.length - 1] = (ls[ls.length - 1]'(by omega)).data.toList := by
    intro L hL q
    subst hL
    simp only [List.length_map, List.getElem_map]
  exact this _ e.symm _
theorem autS_of {s : ByteArray} {ls hd : List ByteArray} (h1 : CutOf 10 s ls) (h2 : CutOf 32 (ls[0]'h1.pos) hd) :
    autS s.data.toList = match allS numS ((hd.map (·.data.toList)).drop 1) with
      | some [a, b] => if hd[0]'h2.pos = autG ∧ (ls[ls.length - 1]'(by have := h1.pos; omega)) = ⟨#[]⟩ ∧ (ls.length : Int) = b + 2 then (match allS rowA (midB ls) with
        | none => none
        | some xss => some (a, xss)) else none
      | _ => none := by
  unfold autS
  rw [h1.head, ← h2.eq, last_of h1]
  have e : (hd.map (·.data.toList)).headD [] = (hd[0]'h2.pos).data.toList := by rw [h2.eq]; exact h2.head
  have e2 : (((cutL 10 s.data.toList).drop 1).dropLast) = midB ls := by
    unfold midB
    rw [← h1.eq, ← List.map_drop, ← List.map_dropLast]
  have e3 : (cutL 10 s.data.toList).length = ls.length := by rw [← h1.eq, List.length_map]
  have e4 : ((ls[ls.length - 1]'(by have := h1.pos; omega)).data.toList = []) ↔ ((ls[ls.length - 1]'(by have := h1.pos; omega)) = ⟨#[]⟩) := bytes_eq_iff (a := ls[ls.length - 1]'(by have := h1.pos; omega)) (b := ⟨#[]⟩)
  rw [e, e2, e3]
  simp only [e4]
  simp only [bytes_eq_iff]
  generalize allS numS _ = r
  rcases r with _ | (_ | ⟨a, _ | ⟨b, _ | ⟨c, cs⟩⟩⟩) <;> rfl
end Go.Proofs.YtfdacodbiodiaaaDoor
