/- From what a law's argument is known by (the form's reading) to the words of Base: Ints, Rows2. -/
import Derived.Test.YtocdkeidjocmkaaBase
import Derived.Deep.Matrix
namespace Go.Proofs.Ytocdkeidjocmkaa
set_option linter.unusedVariables false
set_option linter.unusedSimpArgs false
open Go.ChangeShapes Go.WideShapes Go.ChangeAt Go.RowKit Go.Deep

variable {H : Type} {enc : TypeId × Value → H} {P : Program} {w : World} {base : Nat} {held : Bool}

theorem addr_plain {a : Addr} {v : Value} (h : w.cell? a = some v) : a = ⟨a.block, a.off, none⟩ := by
  obtain ⟨b, o, s⟩ := a
  cases s with
  | none => rfl
  | some s =>
    exfalso
    unfold World.cell? at h
    split at h
    · simp at h
    · simp at h

theorem add_plain (b o k : Nat) : (⟨b, o, none⟩ : Addr).add k = ⟨b, o + k, none⟩ := by simp [Addr.add_lit]

/-- a slice of cells at an address, as Base says it -/
theorem sl_of_cells {a : Addr} {len cap : Nat} {vs : List Value} (hl : len = vs.length) (hm : len ≤ maxLen) (hc : ∀ i, i < len → w.cell? (a.add i) = some (vs.getD i undef)) : Sl w (.slice (some a) len cap) vs := by
  subst hl
  refine ⟨some a, a.block, a.off, cap, rfl, fun h0 => ?_, fun k hk => ?_, by unfold maxLen at hm; omega⟩
  · have := hc 0 h0
    rw [Addr.add_zero'] at this
    rw [← addr_plain this]
  · have h := hc 0 (by omega)
    rw [Addr.add_zero'] at h
    have e := addr_plain h
    have hk' := hc k hk
    rw [e, add_plain] at hk'
    exact hk'

theorem ints_of_trod {t e : TypeId} {fuel : Nat} {v : Value} {x : DataW H × List MemPlace} (ht : P.underlying t = some (.slice e)) (he : P.underlying e = some (.int .i64)) (hc : P.cellsOf e = 1)
    (h : DataW.trod enc P w base (fun _ => true) held fuel t [v] = some x) : ∃ zs, Ints w v zs := by
  rcases open_ints ht he hc h with ⟨hcs, _⟩ | ⟨a, len, cap, zs, hcs, _, hl, hm, hz, _, hcell, _⟩
  · simp at hcs
    subst hcs
    exact ⟨[], none, 0, 0, 0, rfl, by simp, by simp, by simp⟩
  · simp at hcs hz
    subst hcs
    refine ⟨zs.take len, sl_of_cells (by simp; omega) (by omega) fun i hi => ?_⟩
    rw [hcell i (by omega)]
    simp [List.getD_eq_getElem?_getD, hi, show i < zs.length by omega]

theorem rows_of_trod {t e q : TypeId} {fuel : Nat} {v : Value} {x : DataW H × List MemPlace} (ht : P.underlying t = some (.slice e)) (he : P.underlying e = some (.slice q)) (hq : P.underlying q = some (.int .i64))
    (ce : P.cellsOf e = 1) (cq : P.cellsOf q = 1) (h : DataW.trod enc P w base (fun _ => true) held fuel t [v] = some x) : ∃ zss, Rows2 w v zss := by
  rcases open_int_rows ht he hq ce cq h with ⟨hcs, _⟩ | ⟨a, len, cap, A, L, C, Z, hcs, _, hl, hm, _, hx⟩
  · simp at hcs
    subst hcs
    exact ⟨[], [], ⟨none, 0, 0, 0, rfl, by simp, by simp, by simp⟩, rfl, by simp⟩
  · simp at hcs
    subst hcs
    refine ⟨(List.range len).map fun r => (Z r).take (L r), (List.range len).map fun r => .slice (A r) (L r) (C r), sl_of_cells (by simp) (by omega) fun i hi => ?_, by simp, fun k hk => ?_⟩
    · rw [(hx i (by omega)).1]
      simp [List.getD_eq_getElem?_getD, hi]
    · have hk' : k < len := by simpa using hk
      obtain ⟨h1, h2, h3, h4, _, h6, h7⟩ := hx k (by omega)
      rw [show ((List.range len).map fun r => Value.slice (A r) (L r) (C r)).getD k undef = .slice (A k) (L k) (C k) by simp [List.getD_eq_getElem?_getD, hk']]
      rw [show ((List.range len).map fun r => (Z r).take (L r)).getD k [] = (Z k).take (L k) by simp [List.getD_eq_getElem?_getD, hk']]
      cases hA : A k with
      | none =>
        have := h6 hA
        rw [show L k = 0 by omega, show C k = 0 by omega]
        exact ⟨none, 0, 0, 0, by simp, by simp, by simp, by simp⟩
      | some a' =>
        refine sl_of_cells (by simp; omega) (by omega) fun i hi => ?_
        rw [(h7 a' hA).2 i (by omega)]
        simp [List.getD_eq_getElem?_getD, hi, show i < (Z k).length by omega]

end Go.Proofs.Ytocdkeidjocmkaa
