import Derived.Test.YtfdacodbiodiaaaGreatDoorTextAll
import Derived.Test.YtfdacodbiodiaaaGreatDoorReadAll
import Derived.Test.YtfdacodbiodiaaaGreatDoorLines
import Derived.Test.YtfdacodbiodiaaaGreatDoorPush
/- ReadPartial: what it answers, by the strict reading and by the loose one. -/
namespace Go.Proofs.YtfdacodbiodiaaaGreatDoor
set_option linter.unusedVariables false
set_option linter.unusedSimpArgs false
open Go.RowKit

theorem lineG_dec (w : ByteArray) (zs : List Int) : lineG decG w zs = lineB w zs := rfl
theorem celP_G (z : Int) : celP z = spG ++ celG z := by
  unfold celP celG
  by_cases h : z < 0
  · rw [if_pos h, if_pos h]; decide +kernel
  · rw [if_neg h, if_neg h]; rfl
theorem lineP_G (w : ByteArray) (zs : List Int) : lineP w zs = lineG celG w zs := by
  have e : numP w zs = numG celG w zs := by
    unfold numP numG
    congr 1
    funext o z
    rw [celP_G]
  unfold lineP lineG
  rw [e]; rfl
theorem rowsU_G (o w : ByteArray) (xss : List (List Int)) : rowsU o w xss = rowsG celG o w xss := by
  unfold rowsU rowsG
  congr 1
  funext o r
  rw [lineP_G]
theorem partTx_G {st : Int} {xss : List (List Int)} (h : validP st xss = true) : partTx st xss = rowsG celG (lineG decG parG [st, xss.length]) letG xss := by
  unfold partTx
  rw [if_pos h, rowsU_G]; rfl

/-- the state count, the rows, the code -/
def rpAns (t : ByteArray) : Int × List (List Int) × Int :=
  if t.size ≤ 2000 then (if validP (partL t.data.toList).1 (partL t.data.toList).2 = true ∧ partTx (partL t.data.toList).1 (partL t.data.toList).2 = t then ((partL t.data.toList).1, (partL t.data.toList).2, 0) else (0, [], 5)) else (0, [], 2)
theorem rp_big {t : ByteArray} (h : ¬ t.size ≤ 2000) : rpAns t = (0, [], 2) := by unfold rpAns; rw [if_neg h]
theorem rp_yesL {t : ByteArray} (h : t.size ≤ 2000) {a : Int} {xss : List (List Int)} (hp : partL t.data.toList = (a, xss)) (hv : validP a xss = true) (ht : partTx a xss = t) : rpAns t = (a, xss, 0) := by
  unfold rpAns
  rw [if_pos h, hp, if_pos ⟨hv, ht⟩]
theorem rp_noL {t : ByteArray} (h : t.size ≤ 2000) {a : Int} {xss : List (List Int)} (hp : partL t.data.toList = (a, xss)) (hn : ¬ (validP a xss = true ∧ partTx a xss = t)) : rpAns t = (0, [], 5) := by
  unfold rpAns
  rw [if_pos h, hp, if_neg hn]
theorem part_back {t : ByteArray} {a : Int} {xss : List (List Int)} (hv : validP a xss = true) (ht : partTx a xss = t) : partS t.data.toList = some (a, xss) ∧ partL t.data.toList = (a, xss) := by
  obtain ⟨n, g⟩ := goodPT_of hv
  have h1 := g.st
  have h2 := g.lo
  have h3 := g.hi
  have h4 := g.len3
  have h := part_read a xss (by omega) (by omega) (by omega) (fun r hr z hz => by have := (g.rows r hr).2 z hz; omega)
  rw [← ht, partTx_G hv]
  exact h
theorem rp_yesS {t : ByteArray} (h : t.size ≤ 2000) {a : Int} {xss : List (List Int)} (hv : validP a xss = true) (ht : partTx a xss = t) : rpAns t = (a, xss, 0) :=
  rp_yesL h (part_back hv ht).2 hv ht
theorem rp_noS {t : ByteArray} (h : t.size ≤ 2000) (hn : ∀ a xss, partS t.data.toList = some (a, xss) → ¬ (validP a xss = true ∧ partTx a xss = t)) : rpAns t = (0, [], 5) := by
  obtain ⟨a, xss, hp⟩ : ∃ a xss, partL t.data.toList = (a, xss) := ⟨_, _, rfl⟩
  exact rp_noL h hp fun hh => hn a xss (part_back hh.1 hh.2).1 hh
theorem rp_rows (t : ByteArray) : (rpAns t).2.1.length + bulk2 (rpAns t).2.1 ≤ 33 := by
  unfold rpAns
  split
  · split
    · rename_i h
      obtain ⟨n, g⟩ := goodPT_of h.1
      have h3 := g.len3
      have hb : bulk2 (partL t.data.toList).2 ≤ 10 * (partL t.data.toList).2.length := by
        have hr := g.rows
        have hn := g.hi
        generalize (partL t.data.toList).2 = xss at hr
        clear g h h3
        induction xss with
        | nil => simp [bulk2]
        | cons r rs ih =>
          have h1 := ih (fun r hr' => hr r (List.mem_cons_of_mem _ hr'))
          have h2 := (hr r (List.mem_cons_self ..)).1
          unfold bulk2 at h1 ⊢
          simp only [List.map_cons, List.sum_cons, List.length_cons]
          omega
      show (partL t.data.toList).2.length + bulk2 (partL t.data.toList).2 ≤ 33
      omega
    · simp [bulk2]
  · simp [bulk2]

theorem allS_snoc {α β : Type} {f : α → Option β} : ∀ (l : List α) (ys : List β) (x : α) (y : β), allS f l = some ys → f x = some y → allS f (l ++ [x]) = some (ys ++ [y])
  | [], ys, x, y, h, hy => by
    have : ys = [] := by simpa [allS] using h.symm
    subst this
    simp [allS, hy]
  | a :: l, ys, x, y, h, hy => by
    rw [List.cons_append, allS]
    rw [allS] at h
    cases e : f a with
    | none => rw [e] at h; cases h
    | some b =>
      rw [e] at h
      simp only [] at h ⊢
      cases e2 : allS f l with
      | none => rw [e2] at h; cases h
      | some zs =>
        rw [e2] at h
        rw [allS_snoc l zs x y e2 hy]
        simp only [] at h ⊢
        injection h with h
        rw [← h]; rfl
theorem allS_mem_none {α β : Type} {f : α → Option β} : ∀ (l : List α) (x : α), x ∈ l → f x = none → allS f l = none
  | a :: l, x, hx, hn => by
    rw [allS]
    cases e : f a with
    | none => rfl
    | some b =>
      simp only []
      rcases List.mem_cons.1 hx with h | h
      · subst h; rw [hn] at e; cases e
      · rw [allS_mem_none l x h hn]
end Go.Proofs.YtfdacodbiodiaaaGreatDoor

/- ReadAutomaton: what it answers, by the strict reading and by the loose one. -/
namespace Go.Proofs.YtfdacodbiodiaaaGreatDoor
set_option linter.unusedVariables false
set_option linter.unusedSimpArgs false
open Go.RowKit

theorem autoTx_G {st : Int} {xss : List (List Int)} (h : validB st xss = true) : autoTx st xss = rowsG decG (lineG decG autG [st, xss.length]) letG xss := by
  unfold autoTx
  rw [if_pos h]; rfl
theorem good_mem {st : Int} {n : Nat} {xss : List (List Int)} (h : Good st n xss) : ∀ r ∈ xss, r.length = n ∧ ∀ z ∈ r, 0 ≤ z ∧ z ≤ 10 := by
  intro r hr
  obtain ⟨k, hk, rfl⟩ := List.mem_iff_getElem.1 hr
  have e : xss.getD k [] = xss[k] := by simp [List.getD_eq_getElem?_getD, hk]
  have h1 := h.small hk
  have h2 := (h.rows.row hk).1
  rw [e] at h1 h2
  exact ⟨h2, h1⟩

/-- the state count, the rows, the code -/
def raAns (t : ByteArray) : Int × List (List Int) × Int :=
  if t.size ≤ 2000 then (if validB (autL t.data.toList).1 (autL t.data.toList).2 = true ∧ autoTx (autL t.data.toList).1 (autL t.data.toList).2 = t then ((autL t.data.toList).1, (autL t.data.toList).2, 0) else (0, [], 5)) else (0, [], 2)
theorem ra_big {t : ByteArray} (h : ¬ t.size ≤ 2000) : raAns t = (0, [], 2) := by unfold raAns; rw [if_neg h]
theorem ra_yesL {t : ByteArray} (h : t.size ≤ 2000) {a : Int} {xss : List (List Int)} (hp : autL t.data.toList = (a, xss)) (hv : validB a xss = true) (ht : autoTx a xss = t) : raAns t = (a, xss, 0) := by
  unfold raAns
  rw [if_pos h, hp, if_pos ⟨hv, ht⟩]
theorem ra_noL {t : ByteArray} (h : t.size ≤ 2000) {a : Int} {xss : List (List Int)} (hp : autL t.data.toList = (a, xss)) (hn : ¬ (validB a xss = true ∧ autoTx a xss = t)) : raAns t = (0, [], 5) := by
  unfold raAns
  rw [if_pos h, hp, if_neg hn]
theorem auto_back {t : ByteArray} {a : Int} {xss : List (List Int)} (hv : validB a xss = true) (ht : autoTx a xss = t) : autS t.data.toList = some (a, xss) ∧ autL t.data.toList = (a, xss) := by
  obtain ⟨n, g⟩ := good_of hv
  have h1 := g.st
  have h2 := g.lo
  have h3 := g.hi
  have h4 := g.len3
  have h := auto_read a xss (by omega) (by omega) (by omega) (fun r hr => (good_mem g r hr).2)
  rw [← ht, autoTx_G hv]
  exact h
theorem ra_yesS {t : ByteArray} (h : t.size ≤ 2000) {a : Int} {xss : List (List Int)} (hp : autS t.data.toList = some (a, xss)) (hv : validB a xss = true) : raAns t = (a, xss, 0) := by
  obtain ⟨n, g⟩ := good_of hv
  have h1 := g.st
  have h3 := g.hi
  have h4 := g.len3
  have e := auto_text t.data.toList a xss hp (by omega) (by omega) (fun r hr z hz => ((good_mem g r hr).2 z hz).2)
  rw [← autoTx_G hv] at e
  have ht : autoTx a xss = t := (bytes_eq e).symm
  exact ra_yesL h (auto_back hv ht).2 hv ht
theorem ra_noS {t : ByteArray} (h : t.size ≤ 2000) (hn : ∀ a xss, autS t.data.toList = some (a, xss) → ¬ validB a xss = true) : raAns t = (0, [], 5) := by
  obtain ⟨a, xss, hp⟩ : ∃ a xss, autL t.data.toList = (a, xss) := ⟨_, _, rfl⟩
  exact ra_noL h hp fun hh => hn a xss (auto_back hh.1 hh.2).1 hh.1
theorem bulk_rows {n : Nat} : ∀ (xss : List (List Int)), (∀ r ∈ xss, r.length = n) → bulk2 xss = n * xss.length
  | [], _ => by simp [bulk2]
  | r :: rs, h => by
    have h1 := bulk_rows rs (fun r hr' => h r (List.mem_cons_of_mem _ hr'))
    have h2 := h r (List.mem_cons_self ..)
    unfold bulk2 at h1 ⊢
    simp only [List.map_cons, List.sum_cons, List.length_cons]
    rw [h1, h2, Nat.mul_succ, Nat.add_comm]
theorem ra_rows (t : ByteArray) : (raAns t).2.1.length + bulk2 (raAns t).2.1 ≤ 33 := by
  unfold raAns
  split
  · split
    · rename_i h
      obtain ⟨n, g⟩ := good_of h.1
      have h3 := g.len3
      have hn := g.hi
      have hb := bulk_rows _ (fun r hr => (good_mem g r hr).1)
      have : n * (autL t.data.toList).2.length ≤ 10 * 3 := Nat.mul_le_mul hn h3
      show (autL t.data.toList).2.length + bulk2 (autL t.data.toList).2 ≤ 33
      omega
    · simp [bulk2]
  · simp [bulk2]

/-- the reference's rows of lines -/
def midB (ls : List ByteArray) : List (List UInt8) := ((ls.drop 1).dropLast).map (fun (b : ByteArray) => b.data.toList)
theorem midB_len (ls : List ByteArray) : (midB ls).length = ls.length - 2 := by
  unfold midB
  rw [List.length_map, List.length_dropLast, List.length_drop]
  omega
theorem midB_step {ls : List ByteArray} {k : Nat} (h1 : 1 ≤ k) (h : k + 1 < ls.length) : (midB ls).take k = (midB ls).take (k - 1) ++ [(ls[k]'(by omega)).data.toList] := by
  have e2 : (midB ls)[k - 1]? = some (ls[k]'(by omega)).data.toList := by
    unfold midB
    rw [List.getElem?_map, List.dropLast_eq_take, List.getElem?_take, if_pos (by rw [List.length_drop]; omega), List.getElem?_drop, show 1 + (k - 1) = k by omega, List.getElem?_eq_getElem (by omega)]
    rfl
  have e := List.take_add_one (l := midB ls) (i := k - 1)
  rw [show k - 1 + 1 = k by omega, e2] at e
  exact e
theorem last_of {s : ByteArray} {ls : List ByteArray} (h1 : CutOf 10 s ls) : (cutL 10 s.data.toList).getLast (cutL_ne 10 _) = (ls[ls.length - 1]'(by have := h1.pos; omega)).data.toList := by
  have hp := h1.pos
  rw [List.getLast_eq_getElem]
  have e := h1.eq
  have : ∀ (L : List (List UInt8)) (hL : L = ls.map (·.data.toList)) (q : L.length - 1 < L.length), L[L.length - 1] = (ls[ls.length - 1]'(by omega)).data.toList := by
    intro L hL q
    subst hL
    simp only [List.length_map, List.getElem_map]
  exact this _ e.symm _
theorem autS_of {s : ByteArray} {ls hd : List ByteArray} (h1 : CutOf 10 s ls) (h2 : CutOf 32 (ls[0]'h1.pos) hd) :
    autS s.data.toList = match allS numS ((hd.map (·.data.toList)).drop 1) with
      | some [a, b] => if hd[0]'h2.pos = autG ∧ (ls[ls.length - 1]'(by have := h1.pos; omega)) = ⟨#[]⟩ ∧ (ls.length : Int) = b + 2 then (match allS rowA (midB ls) with
        | none => none
        | some xss => some (a, xss)) else none
      | _ => none := by
  unfold autS
  rw [h1.head, ← h2.eq, last_of h1]
  have e : (hd.map (·.data.toList)).headD [] = (hd[0]'h2.pos).data.toList := by rw [h2.eq]; exact h2.head
  have e2 : (((cutL 10 s.data.toList).drop 1).dropLast) = midB ls := by
    unfold midB
    rw [← h1.eq, ← List.map_drop, ← List.map_dropLast]
  have e3 : (cutL 10 s.data.toList).length = ls.length := by rw [← h1.eq, List.length_map]
  have e4 : ((ls[ls.length - 1]'(by have := h1.pos; omega)).data.toList = []) ↔ ((ls[ls.length - 1]'(by have := h1.pos; omega)) = ⟨#[]⟩) := bytes_eq_iff (a := ls[ls.length - 1]'(by have := h1.pos; omega)) (b := ⟨#[]⟩)
  rw [e, e2, e3]
  simp only [e4]
  simp only [bytes_eq_iff]
  generalize allS numS _ = r
  rcases r with _ | (_ | ⟨a, _ | ⟨b, _ | ⟨c, cs⟩⟩⟩) <;> rfl
end Go.Proofs.YtfdacodbiodiaaaGreatDoor

/- ReadPartial of the reference. -/
namespace Go.Proofs.YtfdacodbiodiaaaGreatDoor
set_option linter.unusedVariables false
set_option linter.unusedSimpArgs false
open Go.ChangeShapes Go.WideShapes Go.ChangeAt Go.RowKit

def rowS (w : List (List UInt8)) : Option (List Int) := allS celS (w.drop 1)
theorem partS_lines (t : List UInt8) : partS t = match linesS parG.data.toList t with
  | none => none
  | some (a, ws) => match allS rowS ws with
    | none => none
    | some xss => some (a, xss) := rfl
def tl (bs : List ByteArray) : List (List UInt8) := bs.map (fun (b : ByteArray) => b.data.toList)
def tls (bss : List (List ByteArray)) : List (List (List UInt8)) := bss.map tl
theorem tls_take {bss : List (List ByteArray)} {k : Nat} (h : k < bss.length) : (tls bss).take (k + 1) = (tls bss).take k ++ [tl bss[k]] := by
  unfold tls
  rw [List.take_succ_eq_append_getElem (by simpa using h), List.getElem_map]
theorem tls_mem {bss : List (List ByteArray)} {k : Nat} (h : k < bss.length) : tl bss[k] ∈ tls bss := List.mem_map_of_mem (List.getElem_mem h)
theorem tl_drop {bs : List ByteArray} {j : Nat} (h1 : 1 ≤ j) (h : j < bs.length) : ((tl bs).drop 1).take j = ((tl bs).drop 1).take (j - 1) ++ [(bs[j]).data.toList] := by
  have e2 : ((tl bs).drop 1)[j - 1]? = some (bs[j]).data.toList := by
    unfold tl
    rw [List.getElem?_drop, show 1 + (j - 1) = j by omega, List.getElem?_map, List.getElem?_eq_getElem h]; rfl
  have e := List.take_add_one (l := (tl bs).drop 1) (i := j - 1)
  rw [show j - 1 + 1 = j by omega, e2] at e
  exact e
theorem tl_len (bs : List ByteArray) : (tl bs).length = bs.length := by simp [tl]
theorem tl_mem {bs : List ByteArray} {j : Nat} (h1 : 1 ≤ j) (h : j < bs.length) : (bs[j]).data.toList ∈ (tl bs).drop 1 := by
  have e := tl_drop h1 h
  have : (bs[j]).data.toList ∈ ((tl bs).drop 1).take j := by rw [e]; simp
  exact List.mem_of_mem_take this
/-- what the reference's lines are worth -/
theorem lines_small {name t : List UInt8} {a : Int} {ws : List (List (List UInt8))} (h : linesS name t = some (a, ws)) : ws.length ≤ t.length + 1 ∧ ∀ r ∈ ws, r.length ≤ t.length + 1 ∧ ∀ p ∈ r, p.length ≤ t.length := by
  unfold linesS at h
  split at h
  · split at h
    · injection h with h
      injection h with h1 h2
      subst h2
      refine ⟨?_, fun r hr => ?_⟩
      · rw [List.length_map, List.length_dropLast, List.length_drop]
        have := cutL_count 10 t
        omega
      · obtain ⟨l, hl, rfl⟩ := List.mem_map.1 hr
        have hl2 := cutL_size 10 t l (List.mem_of_mem_drop (List.mem_of_mem_take (by rw [← List.dropLast_eq_take]; exact hl)))
        refine ⟨?_, fun p hp => ?_⟩
        · have := cutL_count 32 l
          omega
        · have := cutL_size 32 l p hp
          omega
    · cases h
  · cases h

theorem size1_strsR : ∀ w, (sizeOf 61).run Tryz.prog w = .ok 1 w := fun _ => by kernel_rfl

end Go.Proofs.YtfdacodbiodiaaaGreatDoor
