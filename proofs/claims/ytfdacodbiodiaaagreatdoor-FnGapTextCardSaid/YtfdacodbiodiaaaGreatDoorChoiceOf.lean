/- ChoiceOf of the reference and of the program. Written by gen_choof.py. -/
import Derived.Test.YtfdacodbiodiaaaGreatDoorCubeMark
import Derived.Test.YtfdacodbiodiaaaGreatDoorValidPart
import Derived.Test.YtfdacodbiodiaaaGreatDoorSpecPart
import Derived.Deep.DeepCutAuto
namespace Go.Proofs.YtfdacodbiodiaaaGreatDoor
set_option linter.unusedVariables false
set_option linter.unusedSimpArgs false
open Go.ChangeShapes Go.WideShapes Go.ChangeAt Go.RowKit

theorem elem_cube : Elem Tryz.prog 28 24 (.slice none 0 0) 24 := ⟨Tryz.underlying28, by kernel_rfl, rfl⟩
def coSet (z : Int) : List Int := if z < 0 then [] else [z]
def coRow (r : List Int) : List (List Int) := r.map coSet
def coCube (xss : List (List Int)) : List (List (List Int)) := xss.map coRow
theorem coRow_len (r : List Int) : (coRow r).length = r.length := by simp [coRow]
theorem coCube_len (xss : List (List Int)) : (coCube xss).length = xss.length := by simp [coCube]
theorem coRow_take {r : List Int} {k : Nat} (h : k < r.length) : (coRow r).take k ++ [coSet (r.getD k 0)] = (coRow r).take (k + 1) := by
  rw [List.take_succ_eq_append_getElem (by rw [coRow_len]; exact h)]
  simp [coRow, List.getD_eq_getElem?_getD, h]
theorem coCube_take {xss : List (List Int)} {k : Nat} (h : k < xss.length) : (coCube xss).take k ++ [coRow (xss.getD k [])] = (coCube xss).take (k + 1) := by
  rw [List.take_succ_eq_append_getElem (by rw [coCube_len]; exact h)]
  simp [coCube, List.getD_eq_getElem?_getD, h]
theorem coRow_bulk (r : List Int) : bulk2 (coRow r) ≤ r.length := by
  unfold bulk2 coRow
  induction r with
  | nil => simp
  | cons z r ih =>
    have h : (coSet z).length ≤ 1 := by unfold coSet; split <;> simp
    simp at ih ⊢
    omega
theorem coCube_bulk : ∀ (xss : List (List Int)) (m : Nat), (∀ r ∈ xss, r.length ≤ m) → bulkN (coCube xss) ≤ xss.length * m := by
  intro xss m
  induction xss with
  | nil => intro _; simp [bulkN, coCube]
  | cons r xss ih =>
    intro h
    have h1 := ih fun r hr => h r (List.mem_cons_of_mem _ hr)
    have h2 := coRow_bulk r
    have h3 := h r (List.mem_cons_self ..)
    unfold bulkN coCube at h1 ⊢
    simp only [List.map_cons, List.sum_cons, List.length_cons, Nat.succ_mul]
    omega
def coCd (st : Int) (xss : List (List Int)) : Int := if validP st xss = true then 0 else 1
def coSt (st : Int) (xss : List (List Int)) : Int := if validP st xss = true then st else 0
def coZs (st : Int) (xss : List (List Int)) : List (List (List Int)) := if validP st xss = true then coCube xss else []
theorem validP_rows {st : Int} {xss : List (List Int)} (h : validP st xss = true) : xss.length ≤ 3 ∧ ∀ r ∈ xss, r.length ≤ 10 := by
  unfold validP at h
  rw [Bool.and_eq_true, Bool.and_eq_true] at h
  obtain ⟨h1, h2, h3⟩ := h
  have h1' := inB_true.1 h1
  have h2' := inB_true.1 h2
  refine ⟨by omega, fun r hr => ?_⟩
  unfold rowsP at h3
  have := List.all_eq_true.1 h3 r hr
  rw [Bool.and_eq_true] at this
  have a' := of_decide_eq_true this.1
  omega
theorem coZs_bulk (st : Int) (xss : List (List Int)) : bulkN (coZs st xss) ≤ 1000 := by
  unfold coZs
  split
  · rename_i h
    obtain ⟨h1, h2⟩ := validP_rows h
    have := coCube_bulk xss 10 h2
    omega
  · simp [bulkN]

theorem apart_newer0 {w0 w : World} {lo lo2 : Nat} {e e2 : TypeId} {n n2 : Nat} {v r : Value} {xs ys : List Value} (h : w0.ownsRow lo e 1 v n xs) (hr : w.ownsRow lo2 e2 1 r n2 ys) (hl : w0.heap.size ≤ lo2) : r.ownBlock = none ∨ r.ownBlock ≠ v.ownBlock := by
  cases hv : r.ownBlock with
  | none => exact .inl rfl
  | some q =>
    refine .inr fun hh => ?_
    have a1 := own_block h hh.symm
    have a2 := own_block hr hv
    omega
/-- a struct of a number and lists of rows, and a code -/
def NewChoice2 (st : Int) (zsss : List (List (List Int))) (code : Int) (w : World) (e : Ending) (w' : World) : Prop :=
  ∃ v rs, e = .returned (.tuple #[.agg #[.int .i64 st, v], .int .i64 code]) ∧ CubeIn w' w.heap.size w'.heap.size v rs zsss ∧ Below w.heap.size w w'
/-- block ob is a struct of a number and lists of rows in the making -/
def CAt (w : World) (ob : Nat) (st : Int) (zsss : List (List (List Int))) : Prop :=
  ∃ v rs, w.cell? ⟨ob, 0, none⟩ = some (.int .i64 st) ∧ w.cell? ⟨ob, 1, none⟩ = some v ∧ w.frozen? ⟨ob, 1, none⟩ = false ∧ CubeIn w (ob + 1) w.heap.size v rs zsss
theorem CAt.push {W w2 w2' w6 : World} {ob : Nat} {st : Int} {v v6 r : Value} {rs rss : List Value} {zsss : List (List (List Int))} {zss : List (List Int)} (c0 : W.cell? ⟨ob, 0, none⟩ = some (.int .i64 st)) (c1 : W.cell? ⟨ob, 1, none⟩ = some v) (f1 : W.frozen? ⟨ob, 1, none⟩ = false)
    (hc : CubeIn W (ob + 1) W.heap.size v rs zsss) (hb : Below W.heap.size W w2) (hr : OwnRows w2 W.heap.size r rss zss) (hb2 : Below w2.heap.size w2 w2') (ho : w6.ownsRow (ob + 1) 24 1 v6 (zsss.length + 1) (rs ++ [r])) (hg : w2'.grownBy w6 v.ownBlock) (hs : SameOrNew v v6 w2'.heap.size) : CAt (w6.setCell ⟨ob, 1, none⟩ v6) ob st (zsss ++ [zss]) := by
  have hl : ob < W.heap.size := block_lt_of_cell c0
  have hbb := below_trans hb hb2
  have hou := own_below hc.outer hbb
  have hl6 : ob + 1 ≤ ob + 1 := Nat.le_refl _
  have k0 := grown_cell hg hou (Nat.lt_succ_self _) (below_cell hbb c0)
  have k1 := grown_cell hg hou (Nat.lt_succ_self _) (below_cell hbb c1)
  have g1 := grown_frozen hg hou (Nat.lt_succ_self _) (below_cell hbb c1) ((hbb.frozen (p := ⟨ob, 1, none⟩) hl).trans f1)
  have lk := block_lt_of_cell k1
  have h6 := (hc.push (by omega) hb hr hb2 ho hg hs).set_below (Nat.lt_succ_self ob) 1 v6
  refine ⟨v6, _, ?_, ?_, ?_, h6.upto⟩
  · go_simp
  · go_simp
  · go_simp



end Go.Proofs.YtfdacodbiodiaaaGreatDoor
