/- arrangements, of the program. -/
import Derived.Test.YtlgnbbfhejjodaaArr
import Derived.Laws.EntriesVeiled
namespace Go.Proofs.Ytlgnbbfhejjodaa
set_option linter.unusedVariables false
set_option linter.unusedSimpArgs false
open Go.ChangeShapes Go.WideShapes Go.ChangeAt Go.RowKit

set_option maxRecDepth 100000 in
set_option maxHeartbeats 4000000 in
theorem arrangements_any (v : Value) (zs : List Int) (w : World) (h1 : Ints w v zs) (hl : zs.length ≤ 3) :
    Calls Try.prog 123 #[v] w (NewRows (arrOf zs) w) := by
  obtain ⟨ao, p, o, c, H1⟩ := h1.open
  have hv1 := H1.val
  subst hv1
  have hm := H1.len
  have HFR := Lib.hid (fun (bo bn bf : Nat) (ov nv : Value) (W : World) (hb : Below w.heap.size w W) (hbo : w.heap.size ≤ bo) (hbn : w.heap.size ≤ bn) (hA : ArrAt W w.heap.size bo bn ov [] [] nv []) (hf : W.cell? ⟨bf, 0, none⟩ = some (arrFn bo bn bf)) (hlf : some bf ≠ ov.ownBlock) (hlf2 : some bf ≠ nv.ownBlock) (h2 : bf ≠ bo) (h3 : bf ≠ bn) =>
    arrFrom_any zs.length zs _ ao p o c [] [] ov nv [] w.heap.size bo bn bf W rfl (by simp; omega) (by have := arrOf_le hl; unfold arrOf at this; rw [List.length_nil]; omega)
      ⟨H1.val, H1.adr, fun k hk => below_cell hb (H1.cell k hk), H1.len⟩ (fun h0 => by
        have hp : p < w.heap.size := block_lt_of_cell (H1.cell 0 h0)
        exact ⟨by omega, by omega, fun e => by have := own_block hA.rows.outer e.symm; omega, fun e => by have := own_block hA.now e.symm; omega⟩) hA hf hlf hlf2 h2 h3)
  have hAO : Hid (([] : List (List Int)) ++ (arr zs.length zs).map (([] : List Int) ++ ·) = arrOf zs) := by simp [Hid, arrOf]
  have HO1 := Lib.hid (ownRows_empty w w.heap.size (Nat.le_refl _))
  have ho2 := own_empty (w.alloc (.cells #[] 32)) w.heap.size (by simp) 2
  rw [show (w.alloc (.cells #[] 32)).heap.size = w.heap.size + 1 by simp] at ho2
  have HO2 := Lib.hid ho2
  clear ho2
  clear h1 H1
  go_enter Try.func123, Try.ntmps123
  go_wp2_with fail
  refine (HFR.out (w.heap.size + 1 + 1) (w.heap.size + 1 + 1 + 1) (w.heap.size + 1 + 1 + 1 + 1) (.slice (some ⟨w.heap.size, 0, none⟩) 0 0) (.slice (some ⟨w.heap.size + 1, 0, none⟩) 0 0) _ (below_alloc (below_alloc (below_alloc (below_alloc (below_alloc (Below.refl _ _) _) _) _) _) _) (by omega) (by omega) ⟨by go_simp, by go_simp, by go_simp, by go_simp, ?_, ?_, ?_, ?_, ?_, ?_, ?_, ?_, by omega, by simp; omega⟩ (by go_simp) ?_ ?_ (by omega) (by omega)).mono ?_
  · exact HO1.out.below (below_alloc (below_alloc (below_alloc (below_alloc (Below.refl _ _) _) _) _) _)
  · exact own_below HO2.out (below_alloc (below_alloc (below_alloc (Below.refl _ _) _) _) _)
  · intro i hi; simp at hi
  · simp [Value.ownBlock]; try omega
  · simp [Value.ownBlock]; try omega
  · simp [Value.ownBlock]; try omega
  · simp [Value.ownBlock]; try omega
  · intro i hi; simp at hi
  · simp [Value.ownBlock]; omega
  · simp [Value.ownBlock]; omega
  rintro e w2 ⟨rfl, ov', nv', hT⟩
  obtain ⟨rs, hA⟩ := hT.at_
  obtain ⟨a2, m2, c2, rfl, HM2⟩ := own_shape hA.rows.outer
  have co := hA.co
  have lco : w.heap.size + 1 + 1 < w2.heap.size := block_lt_of_cell co
  have hbl : Below w.heap.size w w2 := (below_alloc (below_alloc (below_alloc (below_alloc (below_alloc (Below.refl _ _) _) _) _) _) _).trans (hT.fr.below (by simp; omega) (by omega) (by omega) (fun g hg => by simp [Value.ownBlock] at hg; omega) (fun g hg => by simp [Value.ownBlock] at hg; omega))
  have HRR := Lib.hid hA.rows
  clear hT hA
  go_wp2
  go_ret
  have h := HRR.out
  rw [hAO.out] at h
  exact ⟨_, rs, rfl, h, hbl⟩

end Go.Proofs.Ytlgnbbfhejjodaa
