/- FnExactRefineChoice's walk. Written by lawwalk.py. -/
import Derived.Test.YtkmaglifohffnaaCube
import Derived.Test.YtkmaglifohffnaaRefine
import Derived.Deep.RegionHeld3
namespace Go.Proofs.Ytkmaglifohffnaa
set_option linter.unusedVariables false
set_option linter.unusedSimpArgs false
open Go.ChangeShapes Go.WideShapes Go.ChangeAt Go.RowKit

set_option maxRecDepth 100000 in
set_option maxHeartbeats 8000000 in
theorem walk_FnExactRefineChoice (w : World) (st0 : Int) (v0 : Value) (x0 : List (List (List Int))) (h0 : Rows3 w v0 x0) (st1 : Int) (v1 : Value) (x1 : List (List (List Int))) (h1 : Rows3 w v1 x1) :
    Calls Try.prog 4 #[.agg #[.int .i64 st0, v0], .agg #[.int .i64 st1, v1]] w fun e w' => e = .returned (.bool true) ∧ Below w.heap.size w w' := by
  obtain ⟨ao0, m0, c0, rfl, HM0⟩ := h0.shape
  obtain ⟨ao1, m1, c1, rfl, HM1⟩ := h1.shape
  have HSZ0 := Lib.hid (fun W l (hW : Below w.heap.size w W) (g0 : 0 ≤ l) (g1 : l ≤ 1048576) => szChoice_any st0 _ x0 l W (h0.kept hW) g0 g1)
  have HSZ1 := Lib.hid (fun W l (hW : Below w.heap.size w W) (g0 : 0 ≤ l) (g1 : l ≤ 1048576) => szChoice_any st1 _ x1 l W (h1.kept hW) g0 g1)
  go_enter Try.func4, Try.ntmps4
  have bx0 : Below w.heap.size w ((w.alloc (.cells #[.int .i64 st0, .slice ao0 m0 c0] 35)).alloc (.cells #[.int .i64 st1, .slice ao1 m1 c1] 35)) := (below_alloc (below_alloc (Below.refl _ _) _) _)
  have e0_0 : ((w.alloc (.cells #[.int .i64 st0, .slice ao0 m0 c0] 35)).alloc (.cells #[.int .i64 st1, .slice ao1 m1 c1] 35)).cell? ⟨w.heap.size, 0, none⟩ = some (.int .i64 st0) := by go_simp
  have e0_1 : ((w.alloc (.cells #[.int .i64 st0, .slice ao0 m0 c0] 35)).alloc (.cells #[.int .i64 st1, .slice ao1 m1 c1] 35)).cell? ⟨w.heap.size, 1, none⟩ = some (.slice ao0 m0 c0) := by go_simp
  have e1_0 : ((w.alloc (.cells #[.int .i64 st0, .slice ao0 m0 c0] 35)).alloc (.cells #[.int .i64 st1, .slice ao1 m1 c1] 35)).cell? ⟨w.heap.size + 1, 0, none⟩ = some (.int .i64 st1) := by go_simp
  have e1_1 : ((w.alloc (.cells #[.int .i64 st0, .slice ao0 m0 c0] 35)).alloc (.cells #[.int .i64 st1, .slice ao1 m1 c1] 35)).cell? ⟨w.heap.size + 1, 1, none⟩ = some (.slice ao1 m1 c1) := by go_simp
  go_wp2_with fail
  refine (HSZ0.out _ _ (bx0) (by omega) (by omega)).mono ?_
  rintro e w1 ⟨hb1, r0, rfl, hr0⟩
  have B2 := below_trans bx0 hb1
  replace e0_0 := below_cell hb1 e0_0
  replace e0_1 := below_cell hb1 e0_1
  replace e1_0 := below_cell hb1 e1_0
  replace e1_1 := below_cell hb1 e1_1
  have bcum := B2
  have s_w1 : w.heap.size + 2 ≤ w1.heap.size := by have := hb1.size; simpa using this
  have l_e0_0 := block_lt_of_cell e0_0
  have l_e0_1 := block_lt_of_cell e0_1
  have l_e1_0 := block_lt_of_cell e1_0
  have l_e1_1 := block_lt_of_cell e1_1
  rcases hr0 with rfl | ⟨hr00, hr0⟩
  · clear h0 h1
    go_wp2
    go_ret
    exact ⟨rfl, bcum⟩
  have hr01 : r0 ≤ 1048576 := by omega
  have hk0 : x0.length + bulk3 x0 ≤ 1048576 := by omega
  clear hr0 hb1
  go_wp2_with fail
  refine (HSZ1.out _ _ bcum (by omega) (by omega)).mono ?_
  rintro e w3 ⟨hb3, r1, rfl, hr1⟩
  replace e0_0 := below_cell hb3 e0_0
  replace e0_1 := below_cell hb3 e0_1
  replace e1_0 := below_cell hb3 e1_0
  replace e1_1 := below_cell hb3 e1_1
  replace bcum := below_trans bcum hb3
  have s_w3 : w1.heap.size + 0 ≤ w3.heap.size := by have := hb3.size; simpa using this
  replace l_e0_0 := block_lt_of_cell e0_0
  replace l_e0_1 := block_lt_of_cell e0_1
  replace l_e1_0 := block_lt_of_cell e1_0
  replace l_e1_1 := block_lt_of_cell e1_1
  rcases hr1 with rfl | ⟨hr10, hr1⟩
  · clear h0 h1
    go_wp2
    go_ret
    exact ⟨rfl, bcum⟩
  have hr11 : r1 ≤ 1048576 := by omega
  have hk1 : x1.length + bulk3 x1 ≤ 1048576 := by omega
  clear hr1 hb3
  have HT0 := Lib.hid (fun W (hW : Below w.heap.size w W) => toChoice_any st0 _ x0 W (h0.kept hW) hk0)
  have HT1 := Lib.hid (fun W (hW : Below w.heap.size w W) => toChoice_any st1 _ x1 W (h1.kept hW) hk1)
  have HT := Lib.hid (fun W st v xss (h : ArgCube w v xss) (hW : Below w.heap.size w W) => toChoice_any st v xss W (h.1.kept hW) h.2)
  have HA0 := Lib.hid (show ArgCube w (.slice ao0 m0 c0) x0 from ⟨h0, hk0⟩)
  have HA1 := Lib.hid (show ArgCube w (.slice ao1 m1 c1) x1 from ⟨h1, hk1⟩)
  have HS := Lib.hid (fun W u0 (q0 : Rows3 W u0 x0) u1 (q1 : Rows3 W u1 x1) => specRefine_any st0 st1 u0 u1 x0 x1 W q0 q1)
  have HI := Lib.hid (fun W u0 (q0 : Rows3 W u0 x0) u1 (q1 : Rows3 W u1 x1) => implRefine_any st0 st1 u0 u1 x0 x1 W q0 q1)
  generalize refOk st0 st1 x0 x1 = rb at HS HI 
  generalize refCd st0 st1 x0 x1 = rc at HS HI 
  have hncd : ∀ x : Int, (x != x) = false := by simp
  clear h0 h1
  have HX4 := Lib.hid (fun W (hW : Below w3.heap.size w3 W) u0 (q0 : Rows3 W u0 x0) u1 (q1 : Rows3 W u1 x1) => (HS.out W u0 q0 u1 q1).mono fun _ _ h => h)
  go_wp2
  go_region_held3 (fun w' => Below w3.heap.size w3 w' ∧ ∀ b o, b < w3.heap.size → w'.cell? ⟨b, o, none⟩ = w3.cell? ⟨b, o, none⟩) (first | exact held_start | assumption | exact held_nx (by assumption) (by assumption) | exact held_alloc (by assumption)) (first | (go_simp; go_at_call 24; refine (HT.out _ _ _ _ (by first | exact HA0.out | exact HA1.out) (below_trans bcum (And.left (by assumption)))).mono ?_; rintro e wt ⟨vt, rst, rfl, ot, hbt⟩; obtain ⟨at0, mt, ct, rfl, HMt⟩ := own_shape ot.outer) | (go_simp; go_at_call 23; refine (HX4.out _ (And.left (by assumption)) _ (by first | exact OwnCube.reads (by assumption) | exact (OwnCube.reads (by assumption)).kept (by assumption)) _ (by first | exact OwnCube.reads (by assumption) | exact (OwnCube.reads (by assumption)).kept (by assumption))).mono ?_; rintro e w4 ⟨rfl, hb4⟩))
  all_goals
    rename Below w3.heap.size w3 w4 ∧ _ => hS
    obtain ⟨hw4, hcs⟩ := hS
    clear hcs
    replace e0_0 := below_cell hw4 e0_0
    replace e0_1 := below_cell hw4 e0_1
    replace e1_0 := below_cell hw4 e1_0
    replace e1_1 := below_cell hw4 e1_1
    replace bcum := below_trans bcum hw4
    have s_w4 : w3.heap.size + 0 ≤ w4.heap.size := by have := hw4.size; simpa using this
    replace l_e0_0 := block_lt_of_cell e0_0
    replace l_e0_1 := block_lt_of_cell e0_1
    replace l_e1_0 := block_lt_of_cell e1_0
    replace l_e1_1 := block_lt_of_cell e1_1
    go_wp2_with fail
    refine (HT0.out _ bcum).mono ?_
    rintro e w5 ⟨vX0, rsX0, rfl, oX0, hb5⟩
    replace e0_0 := below_cell hb5 e0_0
    replace e0_1 := below_cell hb5 e0_1
    replace e1_0 := below_cell hb5 e1_0
    replace e1_1 := below_cell hb5 e1_1
    replace bcum := below_trans bcum hb5
    have s_w5 : w4.heap.size + 0 ≤ w5.heap.size := by have := hb5.size; simpa using this
    replace l_e0_0 := block_lt_of_cell e0_0
    replace l_e0_1 := block_lt_of_cell e0_1
    replace l_e1_0 := block_lt_of_cell e1_0
    replace l_e1_1 := block_lt_of_cell e1_1
    obtain ⟨aX0, mX0, cX0, rfl, HMX0⟩ := own_shape oX0.outer
    clear hb5
    have bx6 : Below w5.heap.size w5 (w5.alloc (.cells #[.int .i64 st0, .slice aX0 mX0 cX0] 39)) := below_alloc (Below.refl _ _) _
    have bX0_0 : (w5.alloc (.cells #[.int .i64 st0, .slice aX0 mX0 cX0] 39)).cell? ⟨w5.heap.size, 0, none⟩ = some (.int .i64 st0) := by go_simp
    have bX0_1 : (w5.alloc (.cells #[.int .i64 st0, .slice aX0 mX0 cX0] 39)).cell? ⟨w5.heap.size, 1, none⟩ = some (.slice aX0 mX0 cX0) := by go_simp
    go_wp2_with fail
    refine (HT1.out _ (below_trans bcum bx6)).mono ?_
    rintro e w7 ⟨vX1, rsX1, rfl, oX1, hb7⟩
    have B8 := below_trans bx6 hb7
    replace e0_0 := below_cell B8 e0_0
    replace e0_1 := below_cell B8 e0_1
    replace e1_0 := below_cell B8 e1_0
    replace e1_1 := below_cell B8 e1_1
    replace bX0_0 := below_cell hb7 bX0_0
    replace bX0_1 := below_cell hb7 bX0_1
    replace oX0 := oX0.below B8
    replace bcum := below_trans bcum B8
    have s_w7 : w5.heap.size + 1 ≤ w7.heap.size := by have := hb7.size; simpa using this
    replace l_e0_0 := block_lt_of_cell e0_0
    replace l_e0_1 := block_lt_of_cell e0_1
    replace l_e1_0 := block_lt_of_cell e1_0
    replace l_e1_1 := block_lt_of_cell e1_1
    have l_bX0_0 := block_lt_of_cell bX0_0
    have l_bX0_1 := block_lt_of_cell bX0_1
    obtain ⟨aX1, mX1, cX1, rfl, HMX1⟩ := own_shape oX1.outer
    clear hb7
    have bx9 : Below w7.heap.size w7 (w7.alloc (.cells #[.int .i64 st1, .slice aX1 mX1 cX1] 39)) := below_alloc (Below.refl _ _) _
    have bX1_0 : (w7.alloc (.cells #[.int .i64 st1, .slice aX1 mX1 cX1] 39)).cell? ⟨w7.heap.size, 0, none⟩ = some (.int .i64 st1) := by go_simp
    have bX1_1 : (w7.alloc (.cells #[.int .i64 st1, .slice aX1 mX1 cX1] 39)).cell? ⟨w7.heap.size, 1, none⟩ = some (.slice aX1 mX1 cX1) := by go_simp
    go_wp2_with fail
    refine (HI.out _ _ (oX0.reads.kept bx9) _ (oX1.reads.kept bx9)).mono ?_
    rintro e w10 ⟨rfl, hb10⟩
    have B11 := below_trans bx9 hb10
    replace e0_0 := below_cell B11 e0_0
    replace e0_1 := below_cell B11 e0_1
    replace e1_0 := below_cell B11 e1_0
    replace e1_1 := below_cell B11 e1_1
    replace bX0_0 := below_cell B11 bX0_0
    replace bX0_1 := below_cell B11 bX0_1
    replace bX1_0 := below_cell hb10 bX1_0
    replace bX1_1 := below_cell hb10 bX1_1
    replace oX0 := oX0.below B11
    replace oX1 := oX1.below B11
    replace bcum := below_trans bcum B11
    have s_w10 : w7.heap.size + 1 ≤ w10.heap.size := by have := hb10.size; simpa using this
    replace l_e0_0 := block_lt_of_cell e0_0
    replace l_e0_1 := block_lt_of_cell e0_1
    replace l_e1_0 := block_lt_of_cell e1_0
    replace l_e1_1 := block_lt_of_cell e1_1
    replace l_bX0_0 := block_lt_of_cell bX0_0
    replace l_bX0_1 := block_lt_of_cell bX0_1
    have l_bX1_0 := block_lt_of_cell bX1_0
    have l_bX1_1 := block_lt_of_cell bX1_1
    clear hb10
    have HE12 := Lib.hid (fun W u (hW : Below w10.heap.size w10 W) (q : Rows3 W u x0) => eqChoice_yes st0 (.slice aX0 mX0 cX0) u x0 W (oX0.reads.kept hW) q)
    go_wp2
    go_region_held3 (fun w' => Below w10.heap.size w10 w' ∧ ∀ b o, b < w10.heap.size → w'.cell? ⟨b, o, none⟩ = w10.cell? ⟨b, o, none⟩) (first | exact held_start | assumption | exact held_nx (by assumption) (by assumption) | exact held_alloc (by assumption)) (first | (go_simp; go_at_call 24; refine (HT0.out _ (below_trans bcum (And.left (by assumption)))).mono ?_; rintro e wt ⟨vt, rst, rfl, ot, hbt⟩; obtain ⟨at1, mt1, ct1, rfl, HMt1⟩ := own_shape ot.outer) | (go_simp; go_at_call 26; refine (HE12.out _ _ (And.left (by assumption)) (by exact OwnCube.reads (by assumption))).mono ?_; rintro e w12 ⟨rfl, hb12⟩))
    rename Below w10.heap.size w10 w12 ∧ _ => hS
    obtain ⟨hw12, hcs⟩ := hS
    clear hcs
    replace e0_0 := below_cell hw12 e0_0
    replace e0_1 := below_cell hw12 e0_1
    replace e1_0 := below_cell hw12 e1_0
    replace e1_1 := below_cell hw12 e1_1
    replace bX0_0 := below_cell hw12 bX0_0
    replace bX0_1 := below_cell hw12 bX0_1
    replace bX1_0 := below_cell hw12 bX1_0
    replace bX1_1 := below_cell hw12 bX1_1
    replace oX0 := oX0.below hw12
    replace oX1 := oX1.below hw12
    replace bcum := below_trans bcum hw12
    have s_w12 : w10.heap.size + 0 ≤ w12.heap.size := by have := hw12.size; simpa using this
    replace l_e0_0 := block_lt_of_cell e0_0
    replace l_e0_1 := block_lt_of_cell e0_1
    replace l_e1_0 := block_lt_of_cell e1_0
    replace l_e1_1 := block_lt_of_cell e1_1
    replace l_bX0_0 := block_lt_of_cell bX0_0
    replace l_bX0_1 := block_lt_of_cell bX0_1
    replace l_bX1_0 := block_lt_of_cell bX1_0
    replace l_bX1_1 := block_lt_of_cell bX1_1
    clear HE12 hw12
    have HE13 := Lib.hid (fun W u (hW : Below w12.heap.size w12 W) (q : Rows3 W u x1) => eqChoice_yes st1 (.slice aX1 mX1 cX1) u x1 W (oX1.reads.kept hW) q)
    go_wp2
    go_region_held3 (fun w' => Below w12.heap.size w12 w' ∧ ∀ b o, b < w12.heap.size → w'.cell? ⟨b, o, none⟩ = w12.cell? ⟨b, o, none⟩) (first | exact held_start | assumption | exact held_nx (by assumption) (by assumption) | exact held_alloc (by assumption)) (first | (go_simp; go_at_call 24; refine (HT1.out _ (below_trans bcum (And.left (by assumption)))).mono ?_; rintro e wt ⟨vt, rst, rfl, ot, hbt⟩; obtain ⟨at1, mt1, ct1, rfl, HMt1⟩ := own_shape ot.outer) | (go_simp; go_at_call 26; refine (HE13.out _ _ (And.left (by assumption)) (by exact OwnCube.reads (by assumption))).mono ?_; rintro e w13 ⟨rfl, hb13⟩))
    rename Below w12.heap.size w12 w13 ∧ _ => hS
    obtain ⟨hw13, hcs⟩ := hS
    clear hcs
    replace e0_0 := below_cell hw13 e0_0
    replace e0_1 := below_cell hw13 e0_1
    replace e1_0 := below_cell hw13 e1_0
    replace e1_1 := below_cell hw13 e1_1
    replace bX0_0 := below_cell hw13 bX0_0
    replace bX0_1 := below_cell hw13 bX0_1
    replace bX1_0 := below_cell hw13 bX1_0
    replace bX1_1 := below_cell hw13 bX1_1
    replace oX0 := oX0.below hw13
    replace oX1 := oX1.below hw13
    replace bcum := below_trans bcum hw13
    have s_w13 : w12.heap.size + 0 ≤ w13.heap.size := by have := hw13.size; simpa using this
    replace l_e0_0 := block_lt_of_cell e0_0
    replace l_e0_1 := block_lt_of_cell e0_1
    replace l_e1_0 := block_lt_of_cell e1_0
    replace l_e1_1 := block_lt_of_cell e1_1
    replace l_bX0_0 := block_lt_of_cell bX0_0
    replace l_bX0_1 := block_lt_of_cell bX0_1
    replace l_bX1_0 := block_lt_of_cell bX1_0
    replace l_bX1_1 := block_lt_of_cell bX1_1
    clear HE13 hw13
    go_wp2
    go_ret
    exact ⟨rfl, bcum⟩

end Go.Proofs.Ytkmaglifohffnaa
