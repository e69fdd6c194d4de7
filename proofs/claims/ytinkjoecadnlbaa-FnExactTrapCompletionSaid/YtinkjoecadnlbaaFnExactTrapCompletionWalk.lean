/- FnExactTrapCompletion's walk. Written by lawwalk.py. -/
import Derived.Test.YtinkjoecadnlbaaAuto
import Derived.Test.YtinkjoecadnlbaaPart
import Derived.Test.YtinkjoecadnlbaaTrapImpl
import Derived.Deep.RegionHeld3
namespace Go.Proofs.Ytinkjoecadnlbaa
set_option linter.unusedVariables false
set_option linter.unusedSimpArgs false
open Go.ChangeShapes Go.WideShapes Go.ChangeAt Go.RowKit

set_option maxRecDepth 100000 in
set_option maxHeartbeats 8000000 in
theorem walk_FnExactTrapCompletion (w : World) (st0 : Int) (v0 : Value) (x0 : List (List Int)) (h0 : Rows2 w v0 x0) :
    Calls Try.prog 3 #[.agg #[.int .i64 st0, v0]] w fun e w' => e = .returned (.bool true) ∧ Below w.heap.size w w' := by
  obtain ⟨ao0, m0, c0, rfl, HM0⟩ := h0.shape
  have HSZ0 := Lib.hid (fun W l (hW : Below w.heap.size w W) (g0 : 0 ≤ l) (g1 : l ≤ 1048576) => szPart_any st0 _ x0 l W (h0.kept hW) g0 g1)
  go_enter Try.func3, Try.ntmps3
  have bx0 : Below w.heap.size w (w.alloc (.cells #[.int .i64 st0, .slice ao0 m0 c0] 24)) := (below_alloc (Below.refl _ _) _)
  have e0_0 : (w.alloc (.cells #[.int .i64 st0, .slice ao0 m0 c0] 24)).cell? ⟨w.heap.size, 0, none⟩ = some (.int .i64 st0) := by go_simp
  have e0_1 : (w.alloc (.cells #[.int .i64 st0, .slice ao0 m0 c0] 24)).cell? ⟨w.heap.size, 1, none⟩ = some (.slice ao0 m0 c0) := by go_simp
  go_wp2_with fail
  refine (HSZ0.out _ _ (bx0) (by omega) (by omega)).mono ?_
  rintro e w1 ⟨hb1, r0, rfl, hr0⟩
  have B2 := below_trans bx0 hb1
  replace e0_0 := below_cell hb1 e0_0
  replace e0_1 := below_cell hb1 e0_1
  have bcum := B2
  have s_w1 : w.heap.size + 1 ≤ w1.heap.size := by have := hb1.size; simpa using this
  have l_e0_0 := block_lt_of_cell e0_0
  have l_e0_1 := block_lt_of_cell e0_1
  rcases hr0 with rfl | ⟨hr00, hr0⟩
  · clear h0
    go_wp2
    go_ret
    exact ⟨rfl, bcum⟩
  have hr01 : r0 ≤ 1048576 := by omega
  have hk0 : x0.length + bulk2 x0 ≤ 1048576 := by omega
  clear hr0 hb1
  have HT0 := Lib.hid (fun W (hW : Below w.heap.size w W) => toPart_any st0 _ x0 W (h0.kept hW) hk0)
  have HBK := tcRows_bulk st0 x0
  have HS := Lib.hid (fun W u0 (q0 : Rows2 W u0 x0) => specTrap_any st0 u0 x0 W q0)
  have HI := Lib.hid (fun W u0 (q0 : Rows2 W u0 x0) => implTrap_any st0 u0 x0 W q0)
  generalize tcRows st0 x0 = rr at HS HI HBK
  generalize tcSt st0 x0 = rst at HS HI HBK
  generalize tcCd st0 x0 = rcd at HS HI HBK
  have hncd : (rcd != rcd) = false := by simp
  clear h0
  go_wp2_with fail
  refine (HT0.out _ bcum).mono ?_
  rintro e w3 ⟨vt0, rst0, rfl, ot0, hb3⟩
  replace e0_0 := below_cell hb3 e0_0
  replace e0_1 := below_cell hb3 e0_1
  replace bcum := below_trans bcum hb3
  have s_w3 : w1.heap.size + 0 ≤ w3.heap.size := by have := hb3.size; simpa using this
  replace l_e0_0 := block_lt_of_cell e0_0
  replace l_e0_1 := block_lt_of_cell e0_1
  obtain ⟨at0, mt0, ct0, rfl, HMt0⟩ := own_shape ot0.outer
  have in_t0 := ot0.within
  have in_t0n : RowsIn (w1.heap.size + 0) w3.heap.size (.slice at0 mt0 ct0) rst0 (x0).length := by simpa using in_t0
  have ot0n := ot0
  clear in_t0
  clear ot0n
  clear hb3
  go_wp2_with fail
  refine (HS.out _ _ ot0.reads).mono ?_
  rintro e w5 ⟨vW, rsW, rfl, oW, hb5⟩
  replace e0_0 := below_cell hb5 e0_0
  replace e0_1 := below_cell hb5 e0_1
  replace ot0 := ot0.below hb5
  replace bcum := below_trans bcum hb5
  have s_w5 : w3.heap.size + 0 ≤ w5.heap.size := by have := hb5.size; simpa using this
  replace l_e0_0 := block_lt_of_cell e0_0
  replace l_e0_1 := block_lt_of_cell e0_1
  obtain ⟨aW, mW, cW, rfl, HMW⟩ := own_shape oW.outer
  have in_W := oW.within
  have in_Wn : RowsIn (w3.heap.size + 0) w5.heap.size (.slice aW mW cW) rsW (rr).length := by simpa using in_W
  have oWn := oW
  clear in_W
  clear oWn
  clear hb5
  have bx7 : Below w5.heap.size w5 (w5.alloc (.cells #[.int .i64 rst, .slice aW mW cW] 26)) := below_alloc (Below.refl _ _) _
  have bW_0 : (w5.alloc (.cells #[.int .i64 rst, .slice aW mW cW] 26)).cell? ⟨w5.heap.size, 0, none⟩ = some (.int .i64 rst) := by go_simp
  have bW_1 : (w5.alloc (.cells #[.int .i64 rst, .slice aW mW cW] 26)).cell? ⟨w5.heap.size, 1, none⟩ = some (.slice aW mW cW) := by go_simp
  go_wp2_with fail
  refine (HT0.out _ (below_trans bcum bx7)).mono ?_
  rintro e w8 ⟨vX0, rsX0, rfl, oX0, hb8⟩
  have B9 := below_trans bx7 hb8
  replace e0_0 := below_cell B9 e0_0
  replace e0_1 := below_cell B9 e0_1
  replace bW_0 := below_cell hb8 bW_0
  replace bW_1 := below_cell hb8 bW_1
  replace oW := oW.below B9
  replace bcum := below_trans bcum B9
  have s_w8 : w5.heap.size + 1 ≤ w8.heap.size := by have := hb8.size; simpa using this
  replace l_e0_0 := block_lt_of_cell e0_0
  replace l_e0_1 := block_lt_of_cell e0_1
  have l_bW_0 := block_lt_of_cell bW_0
  have l_bW_1 := block_lt_of_cell bW_1
  obtain ⟨aX0, mX0, cX0, rfl, HMX0⟩ := own_shape oX0.outer
  have in_X0 := oX0.within
  have in_X0n : RowsIn (w5.heap.size + 1) w8.heap.size (.slice aX0 mX0 cX0) rsX0 (x0).length := by simpa using in_X0
  have oX0n := oX0
  clear in_X0
  clear oX0n
  clear hb8
  have bx11 : Below w8.heap.size w8 (w8.alloc (.cells #[.int .i64 st0, .slice aX0 mX0 cX0] 29)) := below_alloc (Below.refl _ _) _
  have bX0_0 : (w8.alloc (.cells #[.int .i64 st0, .slice aX0 mX0 cX0] 29)).cell? ⟨w8.heap.size, 0, none⟩ = some (.int .i64 st0) := by go_simp
  have bX0_1 : (w8.alloc (.cells #[.int .i64 st0, .slice aX0 mX0 cX0] 29)).cell? ⟨w8.heap.size, 1, none⟩ = some (.slice aX0 mX0 cX0) := by go_simp
  go_wp2_with fail
  refine (HI.out _ _ (oX0.reads.kept bx11)).mono ?_
  rintro e w12 ⟨vG, rsG, rfl, oG, hb12⟩
  have B13 := below_trans bx11 hb12
  replace e0_0 := below_cell B13 e0_0
  replace e0_1 := below_cell B13 e0_1
  replace bW_0 := below_cell B13 bW_0
  replace bW_1 := below_cell B13 bW_1
  replace bX0_0 := below_cell hb12 bX0_0
  replace bX0_1 := below_cell hb12 bX0_1
  replace oW := oW.below B13
  replace oX0 := oX0.below B13
  replace bcum := below_trans bcum B13
  have s_w12 : w8.heap.size + 1 ≤ w12.heap.size := by have := hb12.size; simpa using this
  replace l_e0_0 := block_lt_of_cell e0_0
  replace l_e0_1 := block_lt_of_cell e0_1
  replace l_bW_0 := block_lt_of_cell bW_0
  replace l_bW_1 := block_lt_of_cell bW_1
  have l_bX0_0 := block_lt_of_cell bX0_0
  have l_bX0_1 := block_lt_of_cell bX0_1
  obtain ⟨aG, mG, cG, rfl, HMG⟩ := own_shape oG.outer
  have in_G := oG.within
  have in_Gn : RowsIn (w8.heap.size + 1) w12.heap.size (.slice aG mG cG) rsG (rr).length := by simpa using in_G
  have oGn := oG
  clear in_G
  clear oGn
  clear hb12
  have bx15 : Below w12.heap.size w12 (w12.alloc (.cells #[.int .i64 rst, .slice aG mG cG] 26)) := below_alloc (Below.refl _ _) _
  have bG_0 : (w12.alloc (.cells #[.int .i64 rst, .slice aG mG cG] 26)).cell? ⟨w12.heap.size, 0, none⟩ = some (.int .i64 rst) := by go_simp
  have bG_1 : (w12.alloc (.cells #[.int .i64 rst, .slice aG mG cG] 26)).cell? ⟨w12.heap.size, 1, none⟩ = some (.slice aG mG cG) := by go_simp
  go_wp2_with fail
  refine (eqAuto_yes rst (.slice aG mG cG) (.slice aW mW cW) rr _ (oG.reads.kept bx15) (oW.reads.kept bx15)).mono ?_
  rintro e w16 ⟨rfl, hb16⟩
  have B17 := below_trans bx15 hb16
  replace e0_0 := below_cell B17 e0_0
  replace e0_1 := below_cell B17 e0_1
  replace bW_0 := below_cell B17 bW_0
  replace bW_1 := below_cell B17 bW_1
  replace bX0_0 := below_cell B17 bX0_0
  replace bX0_1 := below_cell B17 bX0_1
  replace bG_0 := below_cell hb16 bG_0
  replace bG_1 := below_cell hb16 bG_1
  replace oW := oW.below B17
  replace oX0 := oX0.below B17
  replace oG := oG.below B17
  replace bcum := below_trans bcum B17
  have s_w16 : w12.heap.size + 1 ≤ w16.heap.size := by have := hb16.size; simpa using this
  replace l_e0_0 := block_lt_of_cell e0_0
  replace l_e0_1 := block_lt_of_cell e0_1
  replace l_bW_0 := block_lt_of_cell bW_0
  replace l_bW_1 := block_lt_of_cell bW_1
  replace l_bX0_0 := block_lt_of_cell bX0_0
  replace l_bX0_1 := block_lt_of_cell bX0_1
  have l_bG_0 := block_lt_of_cell bG_0
  have l_bG_1 := block_lt_of_cell bG_1
  clear hb16
  have HE18 := Lib.hid (fun W u (hW : Below w16.heap.size w16 W) (q : Rows2 W u x0) => eqPart_yes st0 (.slice aX0 mX0 cX0) u x0 W (oX0.reads.kept hW) q)
  go_wp2
  go_region_held3 (fun w' => Below w16.heap.size w16 w' ∧ ∀ b o, b < w16.heap.size → w'.cell? ⟨b, o, none⟩ = w16.cell? ⟨b, o, none⟩) (first | exact held_start | assumption | exact held_nx (by assumption) (by assumption) | exact held_alloc (by assumption)) (first | (go_simp; go_at_call 6; refine (HT0.out _ (below_trans bcum (And.left (by assumption)))).mono ?_; rintro e wt ⟨vt, rsq, rfl, ot, hbt⟩; obtain ⟨at1, mt1, ct1, rfl, HMt1⟩ := own_shape ot.outer) | (go_simp; go_at_call 9; refine (HE18.out _ _ (And.left (by assumption)) (by exact OwnRows.reads (by assumption))).mono ?_; rintro e w18 ⟨rfl, hb18⟩))
  rename Below w16.heap.size w16 w18 ∧ _ => hS
  obtain ⟨hw18, hcs⟩ := hS
  clear hcs
  replace e0_0 := below_cell hw18 e0_0
  replace e0_1 := below_cell hw18 e0_1
  replace bW_0 := below_cell hw18 bW_0
  replace bW_1 := below_cell hw18 bW_1
  replace bX0_0 := below_cell hw18 bX0_0
  replace bX0_1 := below_cell hw18 bX0_1
  replace bG_0 := below_cell hw18 bG_0
  replace bG_1 := below_cell hw18 bG_1
  replace oW := oW.below hw18
  replace oX0 := oX0.below hw18
  replace oG := oG.below hw18
  replace bcum := below_trans bcum hw18
  have s_w18 : w16.heap.size + 0 ≤ w18.heap.size := by have := hw18.size; simpa using this
  replace l_e0_0 := block_lt_of_cell e0_0
  replace l_e0_1 := block_lt_of_cell e0_1
  replace l_bW_0 := block_lt_of_cell bW_0
  replace l_bW_1 := block_lt_of_cell bW_1
  replace l_bX0_0 := block_lt_of_cell bX0_0
  replace l_bX0_1 := block_lt_of_cell bX0_1
  replace l_bG_0 := block_lt_of_cell bG_0
  replace l_bG_1 := block_lt_of_cell bG_1
  clear HE18 hw18
  replace oX0 := oX0.low2 (lo2 := w5.heap.size + 1) in_X0n
  go_wp2_with fail
  refine (markPart_any st0 (.slice aX0 mX0 cX0) (w5.heap.size + 1) (w8.heap.size) _ x0 _ _ oX0 in_X0n (by omega) (by omega) (by omega)).mono ?_
  rintro e w19 ⟨rfl, om19, hch19⟩
  replace e0_0 := hch19.cell e0_0 (by omega)
  replace e0_1 := hch19.cell e0_1 (by omega)
  replace bW_0 := hch19.cell bW_0 (by omega)
  replace bW_1 := hch19.cell bW_1 (by omega)
  replace bX0_0 := hch19.cell bX0_0 (by omega)
  replace bX0_1 := hch19.cell bX0_1 (by omega)
  replace bG_0 := hch19.cell bG_0 (by omega)
  replace bG_1 := hch19.cell bG_1 (by omega)
  replace oW := oW.chg in_Wn hch19 (by omega)
  replace oG := oG.chg in_Gn hch19 (by omega)
  replace bcum := bcum.trans ((hch19.below (by omega)).mono (by omega))
  have s_w19 : w18.heap.size ≤ w19.heap.size := hch19.size
  replace l_e0_0 := block_lt_of_cell e0_0
  replace l_e0_1 := block_lt_of_cell e0_1
  replace l_bW_0 := block_lt_of_cell bW_0
  replace l_bW_1 := block_lt_of_cell bW_1
  replace l_bX0_0 := block_lt_of_cell bX0_0
  replace l_bX0_1 := block_lt_of_cell bX0_1
  replace l_bG_0 := block_lt_of_cell bG_0
  replace l_bG_1 := block_lt_of_cell bG_1
  clear om19 hch19
  have hdk : decide (((1 : Int) + (bulk2 x0 : Int)) < 0) = false := decide_eq_false (by omega)
  go_wp2_with fail
  refine (eqAuto_yes rst (.slice aG mG cG) (.slice aW mW cW) rr _ oG.reads oW.reads).mono ?_
  rintro e w20 ⟨rfl, hb20⟩
  replace e0_0 := below_cell hb20 e0_0
  replace e0_1 := below_cell hb20 e0_1
  replace bW_0 := below_cell hb20 bW_0
  replace bW_1 := below_cell hb20 bW_1
  replace bX0_0 := below_cell hb20 bX0_0
  replace bX0_1 := below_cell hb20 bX0_1
  replace bG_0 := below_cell hb20 bG_0
  replace bG_1 := below_cell hb20 bG_1
  replace oW := oW.below hb20
  replace oG := oG.below hb20
  replace bcum := below_trans bcum hb20
  have s_w20 : w19.heap.size + 0 ≤ w20.heap.size := by have := hb20.size; simpa using this
  replace l_e0_0 := block_lt_of_cell e0_0
  replace l_e0_1 := block_lt_of_cell e0_1
  replace l_bW_0 := block_lt_of_cell bW_0
  replace l_bW_1 := block_lt_of_cell bW_1
  replace l_bX0_0 := block_lt_of_cell bX0_0
  replace l_bX0_1 := block_lt_of_cell bX0_1
  replace l_bG_0 := block_lt_of_cell bG_0
  replace l_bG_1 := block_lt_of_cell bG_1
  clear hb20
  replace oG := oG.low2 (lo2 := w8.heap.size + 1) in_Gn
  go_wp2_with fail
  refine (markAuto_any rst (.slice aG mG cG) (w8.heap.size + 1) (w12.heap.size) _ rr _ _ oG in_Gn (by omega) (by omega) (by omega)).mono ?_
  rintro e w21 ⟨rfl, om21, hch21⟩
  replace e0_0 := hch21.cell e0_0 (by omega)
  replace e0_1 := hch21.cell e0_1 (by omega)
  replace bW_0 := hch21.cell bW_0 (by omega)
  replace bW_1 := hch21.cell bW_1 (by omega)
  replace bX0_0 := hch21.cell bX0_0 (by omega)
  replace bX0_1 := hch21.cell bX0_1 (by omega)
  replace bG_0 := hch21.cell bG_0 (by omega)
  replace bG_1 := hch21.cell bG_1 (by omega)
  replace oW := oW.chg in_Wn hch21 (by omega)
  replace bcum := bcum.trans ((hch21.below (by omega)).mono (by omega))
  have s_w21 : w20.heap.size ≤ w21.heap.size := hch21.size
  replace l_e0_0 := block_lt_of_cell e0_0
  replace l_e0_1 := block_lt_of_cell e0_1
  replace l_bW_0 := block_lt_of_cell bW_0
  replace l_bW_1 := block_lt_of_cell bW_1
  replace l_bX0_0 := block_lt_of_cell bX0_0
  replace l_bX0_1 := block_lt_of_cell bX0_1
  replace l_bG_0 := block_lt_of_cell bG_0
  replace l_bG_1 := block_lt_of_cell bG_1
  clear oG hch21
  have hneq : ((1 + (bulk2 rr : Int)) != 1 + (bulk2 rr : Int)) = false := by simp
  have hdq : decide (1 + (bulk2 rr : Int) < 0) = false := decide_eq_false (by omega)
  go_wp2_with fail
  refine (heldAuto_any rst (.slice aG mG cG) (numRows 1 rr) rr 1 _ om21.reads (by omega) (by omega) rfl).mono ?_
  rintro e w22 ⟨rfl, hb22⟩
  replace e0_0 := below_cell hb22 e0_0
  replace e0_1 := below_cell hb22 e0_1
  replace bW_0 := below_cell hb22 bW_0
  replace bW_1 := below_cell hb22 bW_1
  replace bX0_0 := below_cell hb22 bX0_0
  replace bX0_1 := below_cell hb22 bX0_1
  replace bG_0 := below_cell hb22 bG_0
  replace bG_1 := below_cell hb22 bG_1
  replace oW := oW.below hb22
  replace om21 := om21.below hb22
  replace bcum := below_trans bcum hb22
  have s_w22 : w21.heap.size + 0 ≤ w22.heap.size := by have := hb22.size; simpa using this
  replace l_e0_0 := block_lt_of_cell e0_0
  replace l_e0_1 := block_lt_of_cell e0_1
  replace l_bW_0 := block_lt_of_cell bW_0
  replace l_bW_1 := block_lt_of_cell bW_1
  replace l_bX0_0 := block_lt_of_cell bX0_0
  replace l_bX0_1 := block_lt_of_cell bX0_1
  replace l_bG_0 := block_lt_of_cell bG_0
  replace l_bG_1 := block_lt_of_cell bG_1
  clear hb22
  go_wp2_with fail
  refine (HT0.out _ bcum).mono ?_
  rintro e w23 ⟨vy0, rsy0, rfl, oy0, hb23⟩
  replace e0_0 := below_cell hb23 e0_0
  replace e0_1 := below_cell hb23 e0_1
  replace bW_0 := below_cell hb23 bW_0
  replace bW_1 := below_cell hb23 bW_1
  replace bX0_0 := below_cell hb23 bX0_0
  replace bX0_1 := below_cell hb23 bX0_1
  replace bG_0 := below_cell hb23 bG_0
  replace bG_1 := below_cell hb23 bG_1
  replace oW := oW.below hb23
  replace om21 := om21.below hb23
  replace bcum := below_trans bcum hb23
  have s_w23 : w22.heap.size + 0 ≤ w23.heap.size := by have := hb23.size; simpa using this
  replace l_e0_0 := block_lt_of_cell e0_0
  replace l_e0_1 := block_lt_of_cell e0_1
  replace l_bW_0 := block_lt_of_cell bW_0
  replace l_bW_1 := block_lt_of_cell bW_1
  replace l_bX0_0 := block_lt_of_cell bX0_0
  replace l_bX0_1 := block_lt_of_cell bX0_1
  replace l_bG_0 := block_lt_of_cell bG_0
  replace l_bG_1 := block_lt_of_cell bG_1
  obtain ⟨ay0, my0, cy0, rfl, HMy0⟩ := own_shape oy0.outer
  have in_y0 := oy0.within
  have in_y0n : RowsIn (w22.heap.size + 0) w23.heap.size (.slice ay0 my0 cy0) rsy0 (x0).length := by simpa using in_y0
  have oy0n := oy0
  clear in_y0
  clear oy0n
  clear hb23
  go_wp2_with fail
  refine (HI.out _ _ oy0.reads).mono ?_
  rintro e w25 ⟨vH, rsH, rfl, oH, hb25⟩
  replace e0_0 := below_cell hb25 e0_0
  replace e0_1 := below_cell hb25 e0_1
  replace bW_0 := below_cell hb25 bW_0
  replace bW_1 := below_cell hb25 bW_1
  replace bX0_0 := below_cell hb25 bX0_0
  replace bX0_1 := below_cell hb25 bX0_1
  replace bG_0 := below_cell hb25 bG_0
  replace bG_1 := below_cell hb25 bG_1
  replace oW := oW.below hb25
  replace om21 := om21.below hb25
  replace oy0 := oy0.below hb25
  replace bcum := below_trans bcum hb25
  have s_w25 : w23.heap.size + 0 ≤ w25.heap.size := by have := hb25.size; simpa using this
  replace l_e0_0 := block_lt_of_cell e0_0
  replace l_e0_1 := block_lt_of_cell e0_1
  replace l_bW_0 := block_lt_of_cell bW_0
  replace l_bW_1 := block_lt_of_cell bW_1
  replace l_bX0_0 := block_lt_of_cell bX0_0
  replace l_bX0_1 := block_lt_of_cell bX0_1
  replace l_bG_0 := block_lt_of_cell bG_0
  replace l_bG_1 := block_lt_of_cell bG_1
  obtain ⟨aH, mH, cH, rfl, HMH⟩ := own_shape oH.outer
  have in_H := oH.within
  have in_Hn : RowsIn (w23.heap.size + 0) w25.heap.size (.slice aH mH cH) rsH (rr).length := by simpa using in_H
  have oHn := oH
  clear in_H
  clear oHn
  clear hb25
  have bx27 : Below w25.heap.size w25 (w25.alloc (.cells #[.int .i64 rst, .slice aH mH cH] 26)) := below_alloc (Below.refl _ _) _
  have bH_0 : (w25.alloc (.cells #[.int .i64 rst, .slice aH mH cH] 26)).cell? ⟨w25.heap.size, 0, none⟩ = some (.int .i64 rst) := by go_simp
  have bH_1 : (w25.alloc (.cells #[.int .i64 rst, .slice aH mH cH] 26)).cell? ⟨w25.heap.size, 1, none⟩ = some (.slice aH mH cH) := by go_simp
  go_wp2_with fail
  refine (eqAuto_yes rst (.slice aH mH cH) (.slice aW mW cW) rr _ (oH.reads.kept bx27) (oW.reads.kept bx27)).mono ?_
  rintro e w28 ⟨rfl, hb28⟩
  have B29 := below_trans bx27 hb28
  replace e0_0 := below_cell B29 e0_0
  replace e0_1 := below_cell B29 e0_1
  replace bW_0 := below_cell B29 bW_0
  replace bW_1 := below_cell B29 bW_1
  replace bX0_0 := below_cell B29 bX0_0
  replace bX0_1 := below_cell B29 bX0_1
  replace bG_0 := below_cell B29 bG_0
  replace bG_1 := below_cell B29 bG_1
  replace bH_0 := below_cell hb28 bH_0
  replace bH_1 := below_cell hb28 bH_1
  replace oW := oW.below B29
  replace om21 := om21.below B29
  replace oH := oH.below B29
  replace bcum := below_trans bcum B29
  have s_w28 : w25.heap.size + 1 ≤ w28.heap.size := by have := hb28.size; simpa using this
  replace l_e0_0 := block_lt_of_cell e0_0
  replace l_e0_1 := block_lt_of_cell e0_1
  replace l_bW_0 := block_lt_of_cell bW_0
  replace l_bW_1 := block_lt_of_cell bW_1
  replace l_bX0_0 := block_lt_of_cell bX0_0
  replace l_bX0_1 := block_lt_of_cell bX0_1
  replace l_bG_0 := block_lt_of_cell bG_0
  replace l_bG_1 := block_lt_of_cell bG_1
  have l_bH_0 := block_lt_of_cell bH_0
  have l_bH_1 := block_lt_of_cell bH_1
  clear hb28
  go_wp2_with fail
  refine (heldAuto_any rst (.slice aG mG cG) (numRows 1 rr) rr 1 _ om21.reads (by omega) (by omega) rfl).mono ?_
  rintro e w30 ⟨rfl, hb30⟩
  replace e0_0 := below_cell hb30 e0_0
  replace e0_1 := below_cell hb30 e0_1
  replace bW_0 := below_cell hb30 bW_0
  replace bW_1 := below_cell hb30 bW_1
  replace bX0_0 := below_cell hb30 bX0_0
  replace bX0_1 := below_cell hb30 bX0_1
  replace bG_0 := below_cell hb30 bG_0
  replace bG_1 := below_cell hb30 bG_1
  replace bH_0 := below_cell hb30 bH_0
  replace bH_1 := below_cell hb30 bH_1
  replace oW := oW.below hb30
  replace om21 := om21.below hb30
  replace oH := oH.below hb30
  replace bcum := below_trans bcum hb30
  have s_w30 : w28.heap.size + 0 ≤ w30.heap.size := by have := hb30.size; simpa using this
  replace l_e0_0 := block_lt_of_cell e0_0
  replace l_e0_1 := block_lt_of_cell e0_1
  replace l_bW_0 := block_lt_of_cell bW_0
  replace l_bW_1 := block_lt_of_cell bW_1
  replace l_bX0_0 := block_lt_of_cell bX0_0
  replace l_bX0_1 := block_lt_of_cell bX0_1
  replace l_bG_0 := block_lt_of_cell bG_0
  replace l_bG_1 := block_lt_of_cell bG_1
  replace l_bH_0 := block_lt_of_cell bH_0
  replace l_bH_1 := block_lt_of_cell bH_1
  clear hb30
  go_wp2
  go_ret
  exact ⟨rfl, bcum⟩

end Go.Proofs.Ytinkjoecadnlbaa
