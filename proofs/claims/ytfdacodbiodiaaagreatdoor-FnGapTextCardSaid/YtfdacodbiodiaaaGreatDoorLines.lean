import Derived.Test.YtfdacodbiodiaaaGreatDoorReadAll
import Derived.Test.YtfdacodbiodiaaaGreatDoorRows
import Derived.Test.YtfdacodbiodiaaaGreatDoorPush
import Derived.Test.YtfdacodbiodiaaaGreatDoorStrRows
/- The reference's number: l01Number computes numS. -/
namespace Go.Proofs.YtfdacodbiodiaaaGreatDoor
set_option linter.unusedVariables false
set_option linter.unusedSimpArgs false
open Go.ChangeShapes Go.WideShapes Go.ChangeAt Go.RowKit

def NumRet (l : List UInt8) (w : World) (e : Ending) (w' : World) : Prop :=
  e = .returned (.tuple #[.int .i64 ((numS l).getD 0), .bool (numS l).isSome]) ∧ w' = w

theorem size_listG (s : ByteArray) : s.data.toList.length = s.size := by rw [Array.length_toList]; rfl
theorem drop_byte (s : ByteArray) (k : Nat) (h : k < s.size) : s.data.toList.drop k = s[k] :: s.data.toList.drop (k + 1) := List.drop_eq_getElem_cons (by rw [size_listG]; exact h)
theorem head_byte (s : ByteArray) (h : 0 < s.size) : s.data.toList.head? = some s[0] := by
  have := drop_byte s 0 h
  rw [List.drop_zero] at this
  rw [this]; rfl
theorem digS_no (n : Int) (c : UInt8) (r : List UInt8) (h : c.toNat < 48 ∨ 57 < c.toNat) : digS n (c :: r) = none := by
  rw [digS, if_pos (show c < 48 ∨ 57 < c from h)]
theorem digS_go (n : Int) (c : UInt8) (r : List UInt8) (h1 : 48 ≤ c.toNat) (h2 : c.toNat ≤ 57) : digS n (c :: r) = digS (n * 10 + ((c.toNat - 48 : Nat) : Int)) r := by
  rw [digS, if_neg]
  rintro (h | h)
  · exact absurd (show c.toNat < 48 from h) (by omega)
  · exact absurd (show 57 < c.toNat from h) (by omega)

end Go.Proofs.YtfdacodbiodiaaaGreatDoor

/- The reference's cut: l01Split computes cutL. -/
namespace Go.Proofs.YtfdacodbiodiaaaGreatDoor
set_option linter.unusedVariables false
set_option linter.unusedSimpArgs false
open Go.ChangeShapes Go.WideShapes Go.ChangeAt Go.RowKit

theorem elem_stringR : Elem Tryz.prog 61 9 (.string ⟨#[]⟩) 16 := ⟨Tryz.underlying61, by kernel_rfl, rfl⟩
/-- a new slice of texts, whose bytes are these -/
def NewStrs (ps : List (List UInt8)) (w : World) (e : Ending) (w' : World) : Prop :=
  ∃ v, ∃ bs : List ByteArray, e = .returned v ∧ w'.ownsRow w.heap.size 9 1 v bs.length (bs.map Value.string) ∧ bs.map (·.data.toList) = ps ∧ Below w.heap.size w w'

theorem own_emptyS (w : World) (lo : Nat) (h : lo ≤ w.heap.size) : (w.alloc (.cells #[] 9)).ownsRow lo 9 1 (.slice (some ⟨w.heap.size, 0, none⟩) 0 0) 0 [] := World.ownsRow_made w #[] 0 h (by unfold maxLen; omega) (by simp)

theorem cutL_step (c : UInt8) (l : List UInt8) (f k : Nat) (hf : f ≤ k) (hk : k < l.length) (hc : l[k] = c) (hn : c ∉ (l.drop f).take (k - f)) :
    cutL c (l.drop f) = (l.drop f).take (k - f) :: cutL c (l.drop (k + 1)) := by
  have e : l.drop f = (l.drop f).take (k - f) ++ c :: l.drop (k + 1) := by
    conv => lhs; rw [← List.take_append_drop (k - f) (l.drop f)]
    rw [List.drop_drop, show f + (k - f) = k by omega, List.drop_eq_getElem_cons hk, hc]
  conv => lhs; rw [e]
  exact cutL_app c _ _ hn

end Go.Proofs.YtfdacodbiodiaaaGreatDoor

/- The reference's numbers of words: l01Numbers computes allS numS. -/
namespace Go.Proofs.YtfdacodbiodiaaaGreatDoor
set_option linter.unusedVariables false
set_option linter.unusedSimpArgs false
open Go.ChangeShapes Go.WideShapes Go.ChangeAt Go.RowKit

theorem elem_intR : Elem Tryz.prog 45 2 (.int .i64 0) 8 := ⟨Tryz.underlying45, by kernel_rfl, rfl⟩
theorem size1_stringR : ∀ w, (sizeOf 9).run Tryz.prog w = .ok 1 w := fun _ => by kernel_rfl
/-- numbers, and whether all were -/
def NumsRet (r : Option (List Int)) (w : World) (e : Ending) (w' : World) : Prop :=
  ∃ v, ∃ zs : List Int, e = .returned (.tuple #[v, .bool r.isSome]) ∧ w'.ownsRow w.heap.size 2 1 v zs.length (zs.map (Value.int .i64)) ∧ (∀ ys, r = some ys → zs = ys) ∧ Below w.heap.size w w'

theorem own_emptyR (w : World) (lo : Nat) (h : lo ≤ w.heap.size) : (w.alloc (.cells #[] 2)).ownsRow lo 2 1 (.slice (some ⟨w.heap.size, 0, none⟩) 0 0) 0 [] := World.ownsRow_made w #[] 0 h (by unfold maxLen; omega) (by simp)

end Go.Proofs.YtfdacodbiodiaaaGreatDoor

/- The reference's lines: l04Lines computes linesS. -/
namespace Go.Proofs.YtfdacodbiodiaaaGreatDoor
set_option linter.unusedVariables false
set_option linter.unusedSimpArgs false
open Go.ChangeShapes Go.WideShapes Go.ChangeAt Go.RowKit

def LinesRet (r : Option (Int × List (List (List UInt8)))) (w : World) (e : Ending) (w' : World) : Prop :=
  ∃ v, ∃ bss : List (List ByteArray), ∃ st : Int, e = .returned (.tuple #[v, .int .i64 st, .bool r.isSome]) ∧ StrRows w' v bss ∧ (∀ p, r = some p → p = (st, bss.map (fun r => r.map (·.data.toList)))) ∧ Below w.heap.size w w'

theorem cutL_size (c : UInt8) : ∀ (s p : List UInt8), p ∈ cutL c s → p.length ≤ s.length := by
  intro s p hp
  have e := joinL_cutL c s
  have h : ∀ (ps : List (List UInt8)), p ∈ ps → p.length ≤ (joinL c ps).length := by
    intro ps
    induction ps with
    | nil => intro h; cases h
    | cons q qs ih =>
      intro h
      cases qs with
      | nil =>
        have : p = q := by simpa using h
        subst this; exact Nat.le_refl _
      | cons r rs =>
        rw [joinL_cons c q (by simp)]
        rcases List.mem_cons.1 h with h | h
        · subst h; simp
        · have := ih h
          simp only [List.length_append, List.length_cons]
          omega
  rw [← e]
  exact h _ hp
theorem cutL_count (c : UInt8) (s : List UInt8) : (cutL c s).length ≤ s.length + 1 := by
  have e := joinL_cutL c s
  have h : ∀ (ps : List (List UInt8)), ps.length ≤ (joinL c ps).length + 1 := by
    intro ps
    induction ps with
    | nil => simp
    | cons q qs ih =>
      cases qs with
      | nil => simp
      | cons r rs =>
        rw [joinL_cons c q (by simp)]
        simp only [List.length_append, List.length_cons] at ih ⊢
        omega
  have := h (cutL c s)
  rw [e] at this
  exact this
/-- a cut text's pieces -/
structure CutOf (c : UInt8) (s : ByteArray) (bs : List ByteArray) : Prop where
  eq : bs.map (·.data.toList) = cutL c s.data.toList
theorem CutOf.pos {c : UInt8} {s : ByteArray} {bs : List ByteArray} (h : CutOf c s bs) : 0 < bs.length := by
  have := cutL_ne c s.data.toList
  have e := congrArg List.length h.eq
  rw [List.length_map] at e
  rw [e]
  exact List.length_pos_iff.2 this
theorem CutOf.len {c : UInt8} {s : ByteArray} {bs : List ByteArray} (h : CutOf c s bs) : bs.length ≤ s.size + 1 := by
  have e := congrArg List.length h.eq
  rw [List.length_map] at e
  rw [e, ← size_listG]
  exact cutL_count c _
theorem CutOf.size {c : UInt8} {s : ByteArray} {bs : List ByteArray} (h : CutOf c s bs) : ∀ x ∈ bs, x.size ≤ s.size := by
  intro x hx
  rw [← size_listG, ← size_listG]
  refine cutL_size c _ _ ?_
  rw [← h.eq]
  exact List.mem_map_of_mem hx
theorem CutOf.head {c : UInt8} {s : ByteArray} {bs : List ByteArray} (h : CutOf c s bs) : (cutL c s.data.toList).headD [] = (bs[0]'h.pos).data.toList := by
  have hp := h.pos
  rw [← h.eq]
  cases bs with
  | nil => simp at hp
  | cons b bs => rfl
theorem CutOf.drop {c : UInt8} {s : ByteArray} {bs : List ByteArray} (h : CutOf c s bs) (k : Nat) : (cutL c s.data.toList).drop k = (bs.drop k).map (·.data.toList) := by
  rw [← h.eq, List.map_drop]
theorem bytes_ne {a b : ByteArray} (h : a.data.toList ≠ b.data.toList) : a ≠ b := fun e => h (by rw [e])
theorem bytes_eq {a b : ByteArray} (h : a.data.toList = b.data.toList) : a = b := by
  have : a.data = b.data := Array.toList_inj.1 h
  cases a; cases b; simpa using this
theorem bytes_eq_iff {a b : ByteArray} : a.data.toList = b.data.toList ↔ a = b := ⟨bytes_eq, fun e => by rw [e]⟩

def mids (ls : List ByteArray) : List (List (List UInt8)) := ((ls.drop 1).dropLast).map (fun (b : ByteArray) => cutL 32 b.data.toList)
theorem linesS_of {s name : ByteArray} {ls hd : List ByteArray} (h1 : CutOf 10 s ls) (h2 : CutOf 32 (ls[0]'h1.pos) hd) :
    linesS name.data.toList s.data.toList = match allS numS ((hd.map (·.data.toList)).drop 1) with
      | some [a, b] => if hd[0]'h2.pos = name ∧ b = (ls.length : Int) - 2 ∧ ∀ x ∈ mids ls, x.headD [] = letG.data.toList then some (a, mids ls) else none
      | _ => none := by
  unfold linesS
  rw [h1.head, ← h2.eq, ← h1.eq]
  have e : (hd.map (·.data.toList)).headD [] = (hd[0]'h2.pos).data.toList := by rw [h2.eq]; exact h2.head
  have e2 : (((ls.map (·.data.toList)).drop 1).dropLast).map (cutL 32) = mids ls := by
    unfold mids
    rw [← List.map_drop, ← List.map_dropLast, List.map_map]; rfl
  rw [e, e2]
  simp only [bytes_eq_iff, List.length_map]
  generalize allS numS _ = r
  rcases r with _ | (_ | ⟨a, _ | ⟨b, _ | ⟨c, cs⟩⟩⟩) <;> rfl

theorem mids_len (ls : List ByteArray) : (mids ls).length = ls.length - 2 := by
  unfold mids
  rw [List.length_map, List.length_dropLast, List.length_drop]
  omega
theorem mids_step {ls : List ByteArray} {k : Nat} (h1 : 1 ≤ k) (h : k + 1 < ls.length) : (mids ls).take k = (mids ls).take (k - 1) ++ [cutL 32 (ls[k]'(by omega)).data.toList] := by
  have e2 : (mids ls)[k - 1]? = some (cutL 32 (ls[k]'(by omega)).data.toList) := by
    unfold mids
    rw [List.getElem?_map, List.dropLast_eq_take, List.getElem?_take, if_pos (by rw [List.length_drop]; omega), List.getElem?_drop, show 1 + (k - 1) = k by omega, List.getElem?_eq_getElem (by omega)]
    rfl
  have e := List.take_add_one (l := mids ls) (i := k - 1)
  rw [show k - 1 + 1 = k by omega, e2] at e
  exact e
theorem strRows_empty (w : World) (ao : Option Addr) (c : Nat) : StrRows w (.slice ao 0 c) [] :=
  ⟨[], ⟨ao, 0, 0, c, rfl, fun h => by simp at h, fun k hk => by simp at hk, by simp⟩, rfl, fun k hk => by simp at hk⟩

theorem elem_strs : Elem Tryz.prog 58 61 (.slice none 0 0) 24 := ⟨Tryz.underlying58, by kernel_rfl, rfl⟩
theorem size1_intR : ∀ w, (sizeOf 2).run Tryz.prog w = .ok 1 w := fun _ => by kernel_rfl

end Go.Proofs.YtfdacodbiodiaaaGreatDoor
