/- FnExactFirstResetColouring's walk. Written by lawwalk.py. -/
import Derived.Test.YtlgnbbfhejjodaaRoad
import Derived.Test.YtlgnbbfhejjodaaStep
import Derived.Test.YtlgnbbfhejjodaaColBoth
import Derived.Deep.RegionHeld3
namespace Go.Proofs.Ytlgnbbfhejjodaa
set_option linter.unusedVariables false
set_option linter.unusedSimpArgs false
open Go.ChangeShapes Go.WideShapes Go.ChangeAt Go.RowKit

set_option maxRecDepth 100000 in
set_option maxHeartbeats 8000000 in
theorem walk_FnExactFirstResetColouring (w : World) (st0 : Int) (v0 : Value) (x0 : List (List Int)) (h0 : Rows2 w v0 x0) :
    Calls Try.prog 9 #[.agg #[.int .i64 st0, v0]] w fun e w' => e = .returned (.bool true) ∧ Below w.heap.size w w' := by
  obtain ⟨ao0, m0, c0, rfl, HM0⟩ := h0.shape
  have HSZ0 := Lib.hid (fun W l (hW : Below w.heap.size w W) (g0 : 0 ≤ l) (g1 : l ≤ 1048576) => szRoad_any st0 _ x0 l W (h0.kept hW) g0 g1)
  go_enter Try.func9, Try.ntmps9
  have bx0 : Below w.heap.size w (w.alloc (.cells #[.int .i64 st0, .slice ao0 m0 c0] 39)) := (below_alloc (Below.refl _ _) _)
  have e0_0 : (w.alloc (.cells #[.int .i64 st0, .slice ao0 m0 c0] 39)).cell? ⟨w.heap.size, 0, none⟩ = some (.int .i64 st0) := by go_simp
  have e0_1 : (w.alloc (.cells #[.int .i64 st0, .slice ao0 m0 c0] 39)).cell? ⟨w.heap.size, 1, none⟩ = some (.slice ao0 m0 c0) := by go_simp
  go_wp2_with fail
  refine (HSZ0.out _ _ (bx0) (by omega) (by omega)).mono ?_
  rintro e w1 ⟨hb1, r0, rfl, hr0⟩
  have B2 := below_trans bx0 hb1
  replace e0_0 := below_cell hb1 e0_0
  replace e0_1 := below_cell hb1 e0_1
  have bcum := B2
  have s_w1 : w.heap.size + 1 ≤ w1.heap.size := by have := hb1.size; simpa using this
  have l_e0_0 := block_lt_of_cell e0_0
  have l_e0_1 := block_lt_of_cell e0_1
  rcases hr0 with rfl | ⟨hr00, hr0⟩
  · clear h0
    go_wp2
    go_ret
    exact ⟨rfl, bcum⟩
  have hr01 : r0 ≤ 1048576 := by omega
  have hk0 : x0.length + bulk2 x0 ≤ 1048576 := by omega
  clear hr0 hb1
  have HT0 := Lib.hid (fun W (hW : Below w.heap.size w W) => toRoad_any st0 _ x0 W (h0.kept hW) hk0)
  have HS := Lib.hid (fun W u0 (q0 : RowsC W u0 x0) => specFirstCol_any st0 u0 x0 W q0)
  have HI := Lib.hid (fun W u0 (q0 : RowsC W u0 x0) => implFirstCol_any st0 u0 x0 W q0.rows)
  generalize frOf st0 x0 = rb at HS HI 
  generalize frCd st0 x0 = rc at HS HI 
  have hncd : ∀ x : Int, (x != x) = false := by simp
  clear h0
  go_wp2_with fail
  refine (HT0.out _ bcum).mono ?_
  rintro e w3 ⟨vt0, rst0, rfl, ot0, hb3⟩
  replace e0_0 := below_cell hb3 e0_0
  replace e0_1 := below_cell hb3 e0_1
  replace bcum := below_trans bcum hb3
  have s_w3 : w1.heap.size + 0 ≤ w3.heap.size := by have := hb3.size; simpa using this
  replace l_e0_0 := block_lt_of_cell e0_0
  replace l_e0_1 := block_lt_of_cell e0_1
  obtain ⟨at0, mt0, ct0, rfl, HMt0⟩ := own_shape ot0.outer
  clear hb3
  go_wp2_with fail
  refine (HS.out _ _ ot0.readsC).mono ?_
  rintro e w4 ⟨rfl, hb4⟩
  replace e0_0 := below_cell hb4 e0_0
  replace e0_1 := below_cell hb4 e0_1
  replace ot0 := ot0.below hb4
  replace bcum := below_trans bcum hb4
  have s_w4 : w3.heap.size + 0 ≤ w4.heap.size := by have := hb4.size; simpa using this
  replace l_e0_0 := block_lt_of_cell e0_0
  replace l_e0_1 := block_lt_of_cell e0_1
  clear hb4
  go_wp2_with fail
  refine (HT0.out _ bcum).mono ?_
  rintro e w5 ⟨vX0, rsX0, rfl, oX0, hb5⟩
  replace e0_0 := below_cell hb5 e0_0
  replace e0_1 := below_cell hb5 e0_1
  replace bcum := below_trans bcum hb5
  have s_w5 : w4.heap.size + 0 ≤ w5.heap.size := by have := hb5.size; simpa using this
  replace l_e0_0 := block_lt_of_cell e0_0
  replace l_e0_1 := block_lt_of_cell e0_1
  obtain ⟨aX0, mX0, cX0, rfl, HMX0⟩ := own_shape oX0.outer
  clear hb5
  have bx6 : Below w5.heap.size w5 (w5.alloc (.cells #[.int .i64 st0, .slice aX0 mX0 cX0] 42)) := below_alloc (Below.refl _ _) _
  have bX0_0 : (w5.alloc (.cells #[.int .i64 st0, .slice aX0 mX0 cX0] 42)).cell? ⟨w5.heap.size, 0, none⟩ = some (.int .i64 st0) := by go_simp
  have bX0_1 : (w5.alloc (.cells #[.int .i64 st0, .slice aX0 mX0 cX0] 42)).cell? ⟨w5.heap.size, 1, none⟩ = some (.slice aX0 mX0 cX0) := by go_simp
  go_wp2_with fail
  refine (HI.out _ _ (oX0.readsC.kept bx6)).mono ?_
  rintro e w7 ⟨rfl, hb7⟩
  have B8 := below_trans bx6 hb7
  replace e0_0 := below_cell B8 e0_0
  replace e0_1 := below_cell B8 e0_1
  replace bX0_0 := below_cell hb7 bX0_0
  replace bX0_1 := below_cell hb7 bX0_1
  replace oX0 := oX0.below B8
  replace bcum := below_trans bcum B8
  have s_w7 : w5.heap.size + 1 ≤ w7.heap.size := by have := hb7.size; simpa using this
  replace l_e0_0 := block_lt_of_cell e0_0
  replace l_e0_1 := block_lt_of_cell e0_1
  have l_bX0_0 := block_lt_of_cell bX0_0
  have l_bX0_1 := block_lt_of_cell bX0_1
  clear hb7
  have HE9 := Lib.hid (fun W u (hW : Below w7.heap.size w7 W) (q : Rows2 W u x0) => eqRoad_yes st0 (.slice aX0 mX0 cX0) u x0 W (oX0.reads.kept hW) q)
  go_wp2
  go_region_held3 (fun w' => Below w7.heap.size w7 w' ∧ ∀ b o, b < w7.heap.size → w'.cell? ⟨b, o, none⟩ = w7.cell? ⟨b, o, none⟩) (first | exact held_start | assumption | exact held_nx (by assumption) (by assumption) | exact held_alloc (by assumption)) (first | (go_simp; go_at_call 28; refine (HT0.out _ (below_trans bcum (And.left (by assumption)))).mono ?_; rintro e wt ⟨vt, rsq, rfl, ot, hbt⟩; obtain ⟨at1, mt1, ct1, rfl, HMt1⟩ := own_shape ot.outer) | (go_simp; go_at_call 30; refine (HE9.out _ _ (And.left (by assumption)) (by exact OwnRows.reads (by assumption))).mono ?_; rintro e w9 ⟨rfl, hb9⟩))
  rename Below w7.heap.size w7 w9 ∧ _ => hS
  obtain ⟨hw9, hcs⟩ := hS
  clear hcs
  replace e0_0 := below_cell hw9 e0_0
  replace e0_1 := below_cell hw9 e0_1
  replace bX0_0 := below_cell hw9 bX0_0
  replace bX0_1 := below_cell hw9 bX0_1
  replace oX0 := oX0.below hw9
  replace bcum := below_trans bcum hw9
  have s_w9 : w7.heap.size + 0 ≤ w9.heap.size := by have := hw9.size; simpa using this
  replace l_e0_0 := block_lt_of_cell e0_0
  replace l_e0_1 := block_lt_of_cell e0_1
  replace l_bX0_0 := block_lt_of_cell bX0_0
  replace l_bX0_1 := block_lt_of_cell bX0_1
  clear HE9 hw9
  go_wp2
  go_ret
  exact ⟨rfl, bcum⟩

end Go.Proofs.Ytlgnbbfhejjodaa
