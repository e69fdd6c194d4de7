/- FnExactFillGaps's walk. Written by lawwalk.py. -/
import Derived.Test.YtkmaglifohffnaaAuto
import Derived.Test.YtkmaglifohffnaaPart
import Derived.Test.YtkmaglifohffnaaFillBoth
import Derived.Deep.RegionHeld3
namespace Go.Proofs.Ytkmaglifohffnaa
set_option linter.unusedVariables false
set_option linter.unusedSimpArgs false
open Go.ChangeShapes Go.WideShapes Go.ChangeAt Go.RowKit

set_option maxRecDepth 100000 in
set_option maxHeartbeats 8000000 in
theorem walk_FnExactFillGaps (w : World) (st0 : Int) (v0 : Value) (x0 : List (List Int)) (h0 : Rows2 w v0 x0) (v1 : Value) (x1 : List Int) (h1 : Ints w v1 x1) :
    Calls Try.prog 11 #[.agg #[.int .i64 st0, v0], v1] w fun e w' => e = .returned (.bool true) ∧ Below w.heap.size w w' := by
  obtain ⟨ao0, m0, c0, rfl, HM0⟩ := h0.shape
  obtain ⟨ao1, m1, c1, rfl, HM1⟩ := h1.shape
  have hm1 : m1 ≤ 9223372036854775807 := by obtain ⟨a, b, o, c, H⟩ := h1.open; have := H.len; have := HM1.out; omega
  by_cases hL1 : ¬ m1 ≤ 1048576
  · have hd : decide ((1048576 : Int) < (m1 : Int)) = true := decide_eq_true (by omega)
    clear h0 h1
    go_enter Try.func11, Try.ntmps11
    go_wp2
    go_ret
    exact ⟨rfl, by repeat (first | exact Below.refl _ _ | refine below_alloc ?_ _)⟩
  replace hL1 := Decidable.not_not.1 hL1
  have hd1 : decide ((1048576 : Int) < (m1 : Int)) = false := decide_eq_false (by omega)
  have hx1 : x1.length ≤ 1048576 := by have := HM1.out; omega
  have HSZ0 := Lib.hid (fun W l (hW : Below w.heap.size w W) (g0 : 0 ≤ l) (g1 : l ≤ 1048576) => szPart_any st0 _ x0 l W (h0.kept hW) g0 g1)
  go_enter Try.func11, Try.ntmps11
  have bx0 : Below w.heap.size w (w.alloc (.cells #[.int .i64 st0, .slice ao0 m0 c0] 43)) := (below_alloc (Below.refl _ _) _)
  have e0_0 : (w.alloc (.cells #[.int .i64 st0, .slice ao0 m0 c0] 43)).cell? ⟨w.heap.size, 0, none⟩ = some (.int .i64 st0) := by go_simp
  have e0_1 : (w.alloc (.cells #[.int .i64 st0, .slice ao0 m0 c0] 43)).cell? ⟨w.heap.size, 1, none⟩ = some (.slice ao0 m0 c0) := by go_simp
  go_wp2_with fail
  refine (HSZ0.out _ _ (bx0) (by omega) (by omega)).mono ?_
  rintro e w1 ⟨hb1, r0, rfl, hr0⟩
  have B2 := below_trans bx0 hb1
  replace e0_0 := below_cell hb1 e0_0
  replace e0_1 := below_cell hb1 e0_1
  have bcum := B2
  have s_w1 : w.heap.size + 1 ≤ w1.heap.size := by have := hb1.size; simpa using this
  have l_e0_0 := block_lt_of_cell e0_0
  have l_e0_1 := block_lt_of_cell e0_1
  rcases hr0 with rfl | ⟨hr00, hr0⟩
  · clear h0 h1
    go_wp2
    go_ret
    exact ⟨rfl, bcum⟩
  have hr01 : r0 ≤ 1048576 := by omega
  have hk0 : x0.length + bulk2 x0 ≤ 1048576 := by omega
  clear hr0 hb1
  have HT0 := Lib.hid (fun W (hW : Below w.heap.size w W) => toPart_any st0 _ x0 W (h0.kept hW) hk0)
  have HT1 := Lib.hid (fun W (hW : Below w.heap.size w W) => toInts_any _ x1 W (h1.kept hW) hx1)
  have HBK := fgRows_bulk st0 x0 x1
  have HS := Lib.hid (fun W u0 (q0 : Rows2 W u0 x0) u1 (q1 : Ints W u1 x1) => specFill_any st0 u0 x0 u1 x1 W q0 q1)
  have HI := Lib.hid (fun W u0 (q0 : Rows2 W u0 x0) u1 (q1 : Ints W u1 x1) => implFill_any st0 u0 x0 u1 x1 W q0 q1)
  generalize fgRows st0 x0 x1 = rr at HS HI HBK
  generalize fgSt st0 x0 x1 = rst at HS HI HBK
  generalize fgCd st0 x0 x1 = rcd at HS HI HBK
  have hncd : (rcd != rcd) = false := by simp
  clear h0 h1
  go_wp2_with fail
  refine (HT0.out _ bcum).mono ?_
  rintro e w3 ⟨vt0, rst0, rfl, ot0, hb3⟩
  replace e0_0 := below_cell hb3 e0_0
  replace e0_1 := below_cell hb3 e0_1
  replace bcum := below_trans bcum hb3
  have s_w3 : w1.heap.size + 0 ≤ w3.heap.size := by have := hb3.size; simpa using this
  replace l_e0_0 := block_lt_of_cell e0_0
  replace l_e0_1 := block_lt_of_cell e0_1
  obtain ⟨at0, mt0, ct0, rfl, HMt0⟩ := own_shape ot0.outer
  have in_t0 := ot0.within
  have in_t0n : RowsIn (w1.heap.size + 0) w3.heap.size (.slice at0 mt0 ct0) rst0 (x0).length := by simpa using in_t0
  have ot0n := ot0
  clear in_t0
  clear ot0n
  clear hb3
  go_wp2_with fail
  refine (HT1.out _ bcum).mono ?_
  rintro e w5 ⟨vt1, rfl, ot1, hb5⟩
  replace e0_0 := below_cell hb5 e0_0
  replace e0_1 := below_cell hb5 e0_1
  replace ot0 := ot0.below hb5
  replace bcum := below_trans bcum hb5
  have s_w5 : w3.heap.size + 0 ≤ w5.heap.size := by have := hb5.size; simpa using this
  replace l_e0_0 := block_lt_of_cell e0_0
  replace l_e0_1 := block_lt_of_cell e0_1
  obtain ⟨at1, mt1, ct1, rfl, HMt1⟩ := own_shape ot1
  have in_t1 := own_within ot1
  have in_t1n : IntsIn (w3.heap.size + 0) w5.heap.size (.slice at1 mt1 ct1) := by simpa using in_t1
  have ot1n := ot1
  clear in_t1
  clear ot1n
  clear hb5
  go_wp2_with fail
  refine (HS.out _ _ ot0.reads _ (ints_of_own ot1)).mono ?_
  rintro e w7 ⟨vW, rsW, rfl, oW, hb7⟩
  replace e0_0 := below_cell hb7 e0_0
  replace e0_1 := below_cell hb7 e0_1
  replace ot0 := ot0.below hb7
  replace ot1 := own_below ot1 hb7
  replace bcum := below_trans bcum hb7
  have s_w7 : w5.heap.size + 0 ≤ w7.heap.size := by have := hb7.size; simpa using this
  replace l_e0_0 := block_lt_of_cell e0_0
  replace l_e0_1 := block_lt_of_cell e0_1
  obtain ⟨aW, mW, cW, rfl, HMW⟩ := own_shape oW.outer
  have in_W := oW.within
  have in_Wn : RowsIn (w5.heap.size + 0) w7.heap.size (.slice aW mW cW) rsW (rr).length := by simpa using in_W
  have oWn := oW
  clear in_W
  clear oWn
  clear hb7
  have bx9 : Below w7.heap.size w7 (w7.alloc (.cells #[.int .i64 rst, .slice aW mW cW] 26)) := below_alloc (Below.refl _ _) _
  have bW_0 : (w7.alloc (.cells #[.int .i64 rst, .slice aW mW cW] 26)).cell? ⟨w7.heap.size, 0, none⟩ = some (.int .i64 rst) := by go_simp
  have bW_1 : (w7.alloc (.cells #[.int .i64 rst, .slice aW mW cW] 26)).cell? ⟨w7.heap.size, 1, none⟩ = some (.slice aW mW cW) := by go_simp
  go_wp2_with fail
  refine (HT0.out _ (below_trans bcum bx9)).mono ?_
  rintro e w10 ⟨vX0, rsX0, rfl, oX0, hb10⟩
  have B11 := below_trans bx9 hb10
  replace e0_0 := below_cell B11 e0_0
  replace e0_1 := below_cell B11 e0_1
  replace bW_0 := below_cell hb10 bW_0
  replace bW_1 := below_cell hb10 bW_1
  replace oW := oW.below B11
  replace bcum := below_trans bcum B11
  have s_w10 : w7.heap.size + 1 ≤ w10.heap.size := by have := hb10.size; simpa using this
  replace l_e0_0 := block_lt_of_cell e0_0
  replace l_e0_1 := block_lt_of_cell e0_1
  have l_bW_0 := block_lt_of_cell bW_0
  have l_bW_1 := block_lt_of_cell bW_1
  obtain ⟨aX0, mX0, cX0, rfl, HMX0⟩ := own_shape oX0.outer
  have in_X0 := oX0.within
  have in_X0n : RowsIn (w7.heap.size + 1) w10.heap.size (.slice aX0 mX0 cX0) rsX0 (x0).length := by simpa using in_X0
  have oX0n := oX0
  clear in_X0
  clear oX0n
  clear hb10
  have bx13 : Below w10.heap.size w10 (w10.alloc (.cells #[.int .i64 st0, .slice aX0 mX0 cX0] 48)) := below_alloc (Below.refl _ _) _
  have bX0_0 : (w10.alloc (.cells #[.int .i64 st0, .slice aX0 mX0 cX0] 48)).cell? ⟨w10.heap.size, 0, none⟩ = some (.int .i64 st0) := by go_simp
  have bX0_1 : (w10.alloc (.cells #[.int .i64 st0, .slice aX0 mX0 cX0] 48)).cell? ⟨w10.heap.size, 1, none⟩ = some (.slice aX0 mX0 cX0) := by go_simp
  go_wp2_with fail
  refine (HT1.out _ (below_trans bcum bx13)).mono ?_
  rintro e w14 ⟨vX1, rfl, oX1, hb14⟩
  have B15 := below_trans bx13 hb14
  replace e0_0 := below_cell B15 e0_0
  replace e0_1 := below_cell B15 e0_1
  replace bW_0 := below_cell B15 bW_0
  replace bW_1 := below_cell B15 bW_1
  replace bX0_0 := below_cell hb14 bX0_0
  replace bX0_1 := below_cell hb14 bX0_1
  replace oW := oW.below B15
  replace oX0 := oX0.below B15
  replace bcum := below_trans bcum B15
  have s_w14 : w10.heap.size + 1 ≤ w14.heap.size := by have := hb14.size; simpa using this
  replace l_e0_0 := block_lt_of_cell e0_0
  replace l_e0_1 := block_lt_of_cell e0_1
  replace l_bW_0 := block_lt_of_cell bW_0
  replace l_bW_1 := block_lt_of_cell bW_1
  have l_bX0_0 := block_lt_of_cell bX0_0
  have l_bX0_1 := block_lt_of_cell bX0_1
  obtain ⟨aX1, mX1, cX1, rfl, HMX1⟩ := own_shape oX1
  have in_X1 := own_within oX1
  have in_X1n : IntsIn (w10.heap.size + 1) w14.heap.size (.slice aX1 mX1 cX1) := by simpa using in_X1
  have oX1n := oX1
  clear in_X1
  clear oX1n
  clear hb14
  go_wp2_with fail
  refine (HI.out _ _ oX0.reads _ (ints_of_own oX1)).mono ?_
  rintro e w17 ⟨vG, rsG, rfl, oG, hb17⟩
  replace e0_0 := below_cell hb17 e0_0
  replace e0_1 := below_cell hb17 e0_1
  replace bW_0 := below_cell hb17 bW_0
  replace bW_1 := below_cell hb17 bW_1
  replace bX0_0 := below_cell hb17 bX0_0
  replace bX0_1 := below_cell hb17 bX0_1
  replace oW := oW.below hb17
  replace oX0 := oX0.below hb17
  replace oX1 := own_below oX1 hb17
  replace bcum := below_trans bcum hb17
  have s_w17 : w14.heap.size + 0 ≤ w17.heap.size := by have := hb17.size; simpa using this
  replace l_e0_0 := block_lt_of_cell e0_0
  replace l_e0_1 := block_lt_of_cell e0_1
  replace l_bW_0 := block_lt_of_cell bW_0
  replace l_bW_1 := block_lt_of_cell bW_1
  replace l_bX0_0 := block_lt_of_cell bX0_0
  replace l_bX0_1 := block_lt_of_cell bX0_1
  obtain ⟨aG, mG, cG, rfl, HMG⟩ := own_shape oG.outer
  have in_G := oG.within
  have in_Gn : RowsIn (w14.heap.size + 0) w17.heap.size (.slice aG mG cG) rsG (rr).length := by simpa using in_G
  have oGn := oG
  clear in_G
  clear oGn
  clear hb17
  have bx19 : Below w17.heap.size w17 (w17.alloc (.cells #[.int .i64 rst, .slice aG mG cG] 26)) := below_alloc (Below.refl _ _) _
  have bG_0 : (w17.alloc (.cells #[.int .i64 rst, .slice aG mG cG] 26)).cell? ⟨w17.heap.size, 0, none⟩ = some (.int .i64 rst) := by go_simp
  have bG_1 : (w17.alloc (.cells #[.int .i64 rst, .slice aG mG cG] 26)).cell? ⟨w17.heap.size, 1, none⟩ = some (.slice aG mG cG) := by go_simp
  go_wp2_with fail
  refine (eqAuto_yes rst (.slice aG mG cG) (.slice aW mW cW) rr _ (oG.reads.kept bx19) (oW.reads.kept bx19)).mono ?_
  rintro e w20 ⟨rfl, hb20⟩
  have B21 := below_trans bx19 hb20
  replace e0_0 := below_cell B21 e0_0
  replace e0_1 := below_cell B21 e0_1
  replace bW_0 := below_cell B21 bW_0
  replace bW_1 := below_cell B21 bW_1
  replace bX0_0 := below_cell B21 bX0_0
  replace bX0_1 := below_cell B21 bX0_1
  replace bG_0 := below_cell hb20 bG_0
  replace bG_1 := below_cell hb20 bG_1
  replace oW := oW.below B21
  replace oX0 := oX0.below B21
  replace oX1 := own_below oX1 B21
  replace oG := oG.below B21
  replace bcum := below_trans bcum B21
  have s_w20 : w17.heap.size + 1 ≤ w20.heap.size := by have := hb20.size; simpa using this
  replace l_e0_0 := block_lt_of_cell e0_0
  replace l_e0_1 := block_lt_of_cell e0_1
  replace l_bW_0 := block_lt_of_cell bW_0
  replace l_bW_1 := block_lt_of_cell bW_1
  replace l_bX0_0 := block_lt_of_cell bX0_0
  replace l_bX0_1 := block_lt_of_cell bX0_1
  have l_bG_0 := block_lt_of_cell bG_0
  have l_bG_1 := block_lt_of_cell bG_1
  clear hb20
  have HE22 := Lib.hid (fun W u (hW : Below w20.heap.size w20 W) (q : Rows2 W u x0) => eqPart_yes st0 (.slice aX0 mX0 cX0) u x0 W (oX0.reads.kept hW) q)
  go_wp2
  go_region_held3 (fun w' => Below w20.heap.size w20 w' ∧ ∀ b o, b < w20.heap.size → w'.cell? ⟨b, o, none⟩ = w20.cell? ⟨b, o, none⟩) (first | exact held_start | assumption | exact held_nx (by assumption) (by assumption) | exact held_alloc (by assumption)) (first | (go_simp; go_at_call 29; refine (HT0.out _ (below_trans bcum (And.left (by assumption)))).mono ?_; rintro e wt ⟨vt, rsq, rfl, ot, hbt⟩; obtain ⟨at1, mt1, ct1, rfl, HMt1⟩ := own_shape ot.outer) | (go_simp; go_at_call 32; refine (HE22.out _ _ (And.left (by assumption)) (by exact OwnRows.reads (by assumption))).mono ?_; rintro e w22 ⟨rfl, hb22⟩))
  rename Below w20.heap.size w20 w22 ∧ _ => hS
  obtain ⟨hw22, hcs⟩ := hS
  clear hcs
  replace e0_0 := below_cell hw22 e0_0
  replace e0_1 := below_cell hw22 e0_1
  replace bW_0 := below_cell hw22 bW_0
  replace bW_1 := below_cell hw22 bW_1
  replace bX0_0 := below_cell hw22 bX0_0
  replace bX0_1 := below_cell hw22 bX0_1
  replace bG_0 := below_cell hw22 bG_0
  replace bG_1 := below_cell hw22 bG_1
  replace oW := oW.below hw22
  replace oX0 := oX0.below hw22
  replace oX1 := own_below oX1 hw22
  replace oG := oG.below hw22
  replace bcum := below_trans bcum hw22
  have s_w22 : w20.heap.size + 0 ≤ w22.heap.size := by have := hw22.size; simpa using this
  replace l_e0_0 := block_lt_of_cell e0_0
  replace l_e0_1 := block_lt_of_cell e0_1
  replace l_bW_0 := block_lt_of_cell bW_0
  replace l_bW_1 := block_lt_of_cell bW_1
  replace l_bX0_0 := block_lt_of_cell bX0_0
  replace l_bX0_1 := block_lt_of_cell bX0_1
  replace l_bG_0 := block_lt_of_cell bG_0
  replace l_bG_1 := block_lt_of_cell bG_1
  clear HE22 hw22
  go_wp2_with fail
  refine (HT1.out _ bcum).mono ?_
  rintro e w23 ⟨vY1, rfl, oY1, hb23⟩
  replace e0_0 := below_cell hb23 e0_0
  replace e0_1 := below_cell hb23 e0_1
  replace bW_0 := below_cell hb23 bW_0
  replace bW_1 := below_cell hb23 bW_1
  replace bX0_0 := below_cell hb23 bX0_0
  replace bX0_1 := below_cell hb23 bX0_1
  replace bG_0 := below_cell hb23 bG_0
  replace bG_1 := below_cell hb23 bG_1
  replace oW := oW.below hb23
  replace oX0 := oX0.below hb23
  replace oX1 := own_below oX1 hb23
  replace oG := oG.below hb23
  replace bcum := below_trans bcum hb23
  have s_w23 : w22.heap.size + 0 ≤ w23.heap.size := by have := hb23.size; simpa using this
  replace l_e0_0 := block_lt_of_cell e0_0
  replace l_e0_1 := block_lt_of_cell e0_1
  replace l_bW_0 := block_lt_of_cell bW_0
  replace l_bW_1 := block_lt_of_cell bW_1
  replace l_bX0_0 := block_lt_of_cell bX0_0
  replace l_bX0_1 := block_lt_of_cell bX0_1
  replace l_bG_0 := block_lt_of_cell bG_0
  replace l_bG_1 := block_lt_of_cell bG_1
  obtain ⟨aY1, mY1, cY1, rfl, HMY1⟩ := own_shape oY1
  have in_Y1 := own_within oY1
  have in_Y1n : IntsIn (w22.heap.size + 0) w23.heap.size (.slice aY1 mY1 cY1) := by simpa using in_Y1
  have oY1n := oY1
  clear in_Y1
  clear oY1n
  clear hb23
  go_wp2_with fail
  refine (eqInts_yes (.slice aX1 mX1 cX1) (.slice aY1 mY1 cY1) x1 _ (ints_of_own oX1) (ints_of_own oY1)).mono ?_
  rintro e w25 ⟨rfl, hb25⟩
  replace e0_0 := below_cell hb25 e0_0
  replace e0_1 := below_cell hb25 e0_1
  replace bW_0 := below_cell hb25 bW_0
  replace bW_1 := below_cell hb25 bW_1
  replace bX0_0 := below_cell hb25 bX0_0
  replace bX0_1 := below_cell hb25 bX0_1
  replace bG_0 := below_cell hb25 bG_0
  replace bG_1 := below_cell hb25 bG_1
  replace oW := oW.below hb25
  replace oX0 := oX0.below hb25
  replace oX1 := own_below oX1 hb25
  replace oG := oG.below hb25
  replace oY1 := own_below oY1 hb25
  replace bcum := below_trans bcum hb25
  have s_w25 : w23.heap.size + 0 ≤ w25.heap.size := by have := hb25.size; simpa using this
  replace l_e0_0 := block_lt_of_cell e0_0
  replace l_e0_1 := block_lt_of_cell e0_1
  replace l_bW_0 := block_lt_of_cell bW_0
  replace l_bW_1 := block_lt_of_cell bW_1
  replace l_bX0_0 := block_lt_of_cell bX0_0
  replace l_bX0_1 := block_lt_of_cell bX0_1
  replace l_bG_0 := block_lt_of_cell bG_0
  replace l_bG_1 := block_lt_of_cell bG_1
  clear hb25
  replace oX0 := oX0.low2 (lo2 := w7.heap.size + 1) in_X0n
  go_wp2_with fail
  refine (markPart_any st0 (.slice aX0 mX0 cX0) (w7.heap.size + 1) (w10.heap.size) _ x0 _ _ oX0 in_X0n (by omega) (by omega) (by omega)).mono ?_
  rintro e w26 ⟨rfl, om26, hch26⟩
  replace e0_0 := hch26.cell e0_0 (by omega)
  replace e0_1 := hch26.cell e0_1 (by omega)
  replace bW_0 := hch26.cell bW_0 (by omega)
  replace bW_1 := hch26.cell bW_1 (by omega)
  replace bX0_0 := hch26.cell bX0_0 (by omega)
  replace bX0_1 := hch26.cell bX0_1 (by omega)
  replace bG_0 := hch26.cell bG_0 (by omega)
  replace bG_1 := hch26.cell bG_1 (by omega)
  replace oW := oW.chg in_Wn hch26 (by omega)
  replace oX1 := own_chg' oX1 in_X1n hch26 (by omega)
  replace oG := oG.chg in_Gn hch26 (by omega)
  replace bcum := bcum.trans ((hch26.below (by omega)).mono (by omega))
  have s_w26 : w25.heap.size ≤ w26.heap.size := hch26.size
  replace l_e0_0 := block_lt_of_cell e0_0
  replace l_e0_1 := block_lt_of_cell e0_1
  replace l_bW_0 := block_lt_of_cell bW_0
  replace l_bW_1 := block_lt_of_cell bW_1
  replace l_bX0_0 := block_lt_of_cell bX0_0
  replace l_bX0_1 := block_lt_of_cell bX0_1
  replace l_bG_0 := block_lt_of_cell bG_0
  replace l_bG_1 := block_lt_of_cell bG_1
  clear om26 hch26
  replace oX1 := own_lo2 (lo2 := w10.heap.size + 1) oX1 in_X1n
  go_wp2_with fail
  refine (markInts_chg (.slice aX1 mX1 cX1) (w10.heap.size + 1) (w14.heap.size) x1 _ _ oX1 in_X1n (by omega) (by omega)).mono ?_
  rintro e w27 ⟨rfl, om27, hch27⟩
  replace e0_0 := hch27.cell e0_0 (by omega)
  replace e0_1 := hch27.cell e0_1 (by omega)
  replace bW_0 := hch27.cell bW_0 (by omega)
  replace bW_1 := hch27.cell bW_1 (by omega)
  replace bX0_0 := hch27.cell bX0_0 (by omega)
  replace bX0_1 := hch27.cell bX0_1 (by omega)
  replace bG_0 := hch27.cell bG_0 (by omega)
  replace bG_1 := hch27.cell bG_1 (by omega)
  replace oW := oW.chg in_Wn hch27 (by omega)
  replace oG := oG.chg in_Gn hch27 (by omega)
  replace bcum := bcum.trans ((hch27.below (by omega)).mono (by omega))
  have s_w27 : w26.heap.size ≤ w27.heap.size := hch27.size
  replace l_e0_0 := block_lt_of_cell e0_0
  replace l_e0_1 := block_lt_of_cell e0_1
  replace l_bW_0 := block_lt_of_cell bW_0
  replace l_bW_1 := block_lt_of_cell bW_1
  replace l_bX0_0 := block_lt_of_cell bX0_0
  replace l_bX0_1 := block_lt_of_cell bX0_1
  replace l_bG_0 := block_lt_of_cell bG_0
  replace l_bG_1 := block_lt_of_cell bG_1
  clear om27 hch27
  have hdk : decide ((((1 : Int) + (bulk2 x0 : Int)) + (x1.length : Int)) < 0) = false := decide_eq_false (by omega)
  go_wp2_with fail
  refine (eqAuto_yes rst (.slice aG mG cG) (.slice aW mW cW) rr _ oG.reads oW.reads).mono ?_
  rintro e w28 ⟨rfl, hb28⟩
  replace e0_0 := below_cell hb28 e0_0
  replace e0_1 := below_cell hb28 e0_1
  replace bW_0 := below_cell hb28 bW_0
  replace bW_1 := below_cell hb28 bW_1
  replace bX0_0 := below_cell hb28 bX0_0
  replace bX0_1 := below_cell hb28 bX0_1
  replace bG_0 := below_cell hb28 bG_0
  replace bG_1 := below_cell hb28 bG_1
  replace oW := oW.below hb28
  replace oG := oG.below hb28
  replace bcum := below_trans bcum hb28
  have s_w28 : w27.heap.size + 0 ≤ w28.heap.size := by have := hb28.size; simpa using this
  replace l_e0_0 := block_lt_of_cell e0_0
  replace l_e0_1 := block_lt_of_cell e0_1
  replace l_bW_0 := block_lt_of_cell bW_0
  replace l_bW_1 := block_lt_of_cell bW_1
  replace l_bX0_0 := block_lt_of_cell bX0_0
  replace l_bX0_1 := block_lt_of_cell bX0_1
  replace l_bG_0 := block_lt_of_cell bG_0
  replace l_bG_1 := block_lt_of_cell bG_1
  clear hb28
  replace oG := oG.low2 (lo2 := w14.heap.size + 0) in_Gn
  go_wp2_with fail
  refine (markAuto_any rst (.slice aG mG cG) (w14.heap.size + 0) (w17.heap.size) _ rr _ _ oG in_Gn (by omega) (by omega) (by omega)).mono ?_
  rintro e w29 ⟨rfl, om29, hch29⟩
  replace e0_0 := hch29.cell e0_0 (by omega)
  replace e0_1 := hch29.cell e0_1 (by omega)
  replace bW_0 := hch29.cell bW_0 (by omega)
  replace bW_1 := hch29.cell bW_1 (by omega)
  replace bX0_0 := hch29.cell bX0_0 (by omega)
  replace bX0_1 := hch29.cell bX0_1 (by omega)
  replace bG_0 := hch29.cell bG_0 (by omega)
  replace bG_1 := hch29.cell bG_1 (by omega)
  replace oW := oW.chg in_Wn hch29 (by omega)
  replace bcum := bcum.trans ((hch29.below (by omega)).mono (by omega))
  have s_w29 : w28.heap.size ≤ w29.heap.size := hch29.size
  replace l_e0_0 := block_lt_of_cell e0_0
  replace l_e0_1 := block_lt_of_cell e0_1
  replace l_bW_0 := block_lt_of_cell bW_0
  replace l_bW_1 := block_lt_of_cell bW_1
  replace l_bX0_0 := block_lt_of_cell bX0_0
  replace l_bX0_1 := block_lt_of_cell bX0_1
  replace l_bG_0 := block_lt_of_cell bG_0
  replace l_bG_1 := block_lt_of_cell bG_1
  clear oG hch29
  have hneq : ((1 + (bulk2 rr : Int)) != 1 + (bulk2 rr : Int)) = false := by simp
  have hdq : decide (1 + (bulk2 rr : Int) < 0) = false := decide_eq_false (by omega)
  go_wp2_with fail
  refine (heldAuto_any rst (.slice aG mG cG) (numRows 1 rr) rr 1 _ om29.reads (by omega) (by omega) rfl).mono ?_
  rintro e w30 ⟨rfl, hb30⟩
  replace e0_0 := below_cell hb30 e0_0
  replace e0_1 := below_cell hb30 e0_1
  replace bW_0 := below_cell hb30 bW_0
  replace bW_1 := below_cell hb30 bW_1
  replace bX0_0 := below_cell hb30 bX0_0
  replace bX0_1 := below_cell hb30 bX0_1
  replace bG_0 := below_cell hb30 bG_0
  replace bG_1 := below_cell hb30 bG_1
  replace oW := oW.below hb30
  replace om29 := om29.below hb30
  replace bcum := below_trans bcum hb30
  have s_w30 : w29.heap.size + 0 ≤ w30.heap.size := by have := hb30.size; simpa using this
  replace l_e0_0 := block_lt_of_cell e0_0
  replace l_e0_1 := block_lt_of_cell e0_1
  replace l_bW_0 := block_lt_of_cell bW_0
  replace l_bW_1 := block_lt_of_cell bW_1
  replace l_bX0_0 := block_lt_of_cell bX0_0
  replace l_bX0_1 := block_lt_of_cell bX0_1
  replace l_bG_0 := block_lt_of_cell bG_0
  replace l_bG_1 := block_lt_of_cell bG_1
  clear hb30
  go_wp2_with fail
  refine (HT0.out _ bcum).mono ?_
  rintro e w31 ⟨vy0, rsy0, rfl, oy0, hb31⟩
  replace e0_0 := below_cell hb31 e0_0
  replace e0_1 := below_cell hb31 e0_1
  replace bW_0 := below_cell hb31 bW_0
  replace bW_1 := below_cell hb31 bW_1
  replace bX0_0 := below_cell hb31 bX0_0
  replace bX0_1 := below_cell hb31 bX0_1
  replace bG_0 := below_cell hb31 bG_0
  replace bG_1 := below_cell hb31 bG_1
  replace oW := oW.below hb31
  replace om29 := om29.below hb31
  replace bcum := below_trans bcum hb31
  have s_w31 : w30.heap.size + 0 ≤ w31.heap.size := by have := hb31.size; simpa using this
  replace l_e0_0 := block_lt_of_cell e0_0
  replace l_e0_1 := block_lt_of_cell e0_1
  replace l_bW_0 := block_lt_of_cell bW_0
  replace l_bW_1 := block_lt_of_cell bW_1
  replace l_bX0_0 := block_lt_of_cell bX0_0
  replace l_bX0_1 := block_lt_of_cell bX0_1
  replace l_bG_0 := block_lt_of_cell bG_0
  replace l_bG_1 := block_lt_of_cell bG_1
  obtain ⟨ay0, my0, cy0, rfl, HMy0⟩ := own_shape oy0.outer
  have in_y0 := oy0.within
  have in_y0n : RowsIn (w30.heap.size + 0) w31.heap.size (.slice ay0 my0 cy0) rsy0 (x0).length := by simpa using in_y0
  have oy0n := oy0
  clear in_y0
  clear oy0n
  clear hb31
  go_wp2_with fail
  refine (HT1.out _ bcum).mono ?_
  rintro e w33 ⟨vy1, rfl, oy1, hb33⟩
  replace e0_0 := below_cell hb33 e0_0
  replace e0_1 := below_cell hb33 e0_1
  replace bW_0 := below_cell hb33 bW_0
  replace bW_1 := below_cell hb33 bW_1
  replace bX0_0 := below_cell hb33 bX0_0
  replace bX0_1 := below_cell hb33 bX0_1
  replace bG_0 := below_cell hb33 bG_0
  replace bG_1 := below_cell hb33 bG_1
  replace oW := oW.below hb33
  replace om29 := om29.below hb33
  replace oy0 := oy0.below hb33
  replace bcum := below_trans bcum hb33
  have s_w33 : w31.heap.size + 0 ≤ w33.heap.size := by have := hb33.size; simpa using this
  replace l_e0_0 := block_lt_of_cell e0_0
  replace l_e0_1 := block_lt_of_cell e0_1
  replace l_bW_0 := block_lt_of_cell bW_0
  replace l_bW_1 := block_lt_of_cell bW_1
  replace l_bX0_0 := block_lt_of_cell bX0_0
  replace l_bX0_1 := block_lt_of_cell bX0_1
  replace l_bG_0 := block_lt_of_cell bG_0
  replace l_bG_1 := block_lt_of_cell bG_1
  obtain ⟨ay1, my1, cy1, rfl, HMy1⟩ := own_shape oy1
  have in_y1 := own_within oy1
  have in_y1n : IntsIn (w31.heap.size + 0) w33.heap.size (.slice ay1 my1 cy1) := by simpa using in_y1
  have oy1n := oy1
  clear in_y1
  clear oy1n
  clear hb33
  go_wp2_with fail
  refine (HI.out _ _ oy0.reads _ (ints_of_own oy1)).mono ?_
  rintro e w35 ⟨vH, rsH, rfl, oH, hb35⟩
  replace e0_0 := below_cell hb35 e0_0
  replace e0_1 := below_cell hb35 e0_1
  replace bW_0 := below_cell hb35 bW_0
  replace bW_1 := below_cell hb35 bW_1
  replace bX0_0 := below_cell hb35 bX0_0
  replace bX0_1 := below_cell hb35 bX0_1
  replace bG_0 := below_cell hb35 bG_0
  replace bG_1 := below_cell hb35 bG_1
  replace oW := oW.below hb35
  replace om29 := om29.below hb35
  replace oy0 := oy0.below hb35
  replace oy1 := own_below oy1 hb35
  replace bcum := below_trans bcum hb35
  have s_w35 : w33.heap.size + 0 ≤ w35.heap.size := by have := hb35.size; simpa using this
  replace l_e0_0 := block_lt_of_cell e0_0
  replace l_e0_1 := block_lt_of_cell e0_1
  replace l_bW_0 := block_lt_of_cell bW_0
  replace l_bW_1 := block_lt_of_cell bW_1
  replace l_bX0_0 := block_lt_of_cell bX0_0
  replace l_bX0_1 := block_lt_of_cell bX0_1
  replace l_bG_0 := block_lt_of_cell bG_0
  replace l_bG_1 := block_lt_of_cell bG_1
  obtain ⟨aH, mH, cH, rfl, HMH⟩ := own_shape oH.outer
  have in_H := oH.within
  have in_Hn : RowsIn (w33.heap.size + 0) w35.heap.size (.slice aH mH cH) rsH (rr).length := by simpa using in_H
  have oHn := oH
  clear in_H
  clear oHn
  clear hb35
  have bx37 : Below w35.heap.size w35 (w35.alloc (.cells #[.int .i64 rst, .slice aH mH cH] 26)) := below_alloc (Below.refl _ _) _
  have bH_0 : (w35.alloc (.cells #[.int .i64 rst, .slice aH mH cH] 26)).cell? ⟨w35.heap.size, 0, none⟩ = some (.int .i64 rst) := by go_simp
  have bH_1 : (w35.alloc (.cells #[.int .i64 rst, .slice aH mH cH] 26)).cell? ⟨w35.heap.size, 1, none⟩ = some (.slice aH mH cH) := by go_simp
  go_wp2_with fail
  refine (eqAuto_yes rst (.slice aH mH cH) (.slice aW mW cW) rr _ (oH.reads.kept bx37) (oW.reads.kept bx37)).mono ?_
  rintro e w38 ⟨rfl, hb38⟩
  have B39 := below_trans bx37 hb38
  replace e0_0 := below_cell B39 e0_0
  replace e0_1 := below_cell B39 e0_1
  replace bW_0 := below_cell B39 bW_0
  replace bW_1 := below_cell B39 bW_1
  replace bX0_0 := below_cell B39 bX0_0
  replace bX0_1 := below_cell B39 bX0_1
  replace bG_0 := below_cell B39 bG_0
  replace bG_1 := below_cell B39 bG_1
  replace bH_0 := below_cell hb38 bH_0
  replace bH_1 := below_cell hb38 bH_1
  replace oW := oW.below B39
  replace om29 := om29.below B39
  replace oH := oH.below B39
  replace bcum := below_trans bcum B39
  have s_w38 : w35.heap.size + 1 ≤ w38.heap.size := by have := hb38.size; simpa using this
  replace l_e0_0 := block_lt_of_cell e0_0
  replace l_e0_1 := block_lt_of_cell e0_1
  replace l_bW_0 := block_lt_of_cell bW_0
  replace l_bW_1 := block_lt_of_cell bW_1
  replace l_bX0_0 := block_lt_of_cell bX0_0
  replace l_bX0_1 := block_lt_of_cell bX0_1
  replace l_bG_0 := block_lt_of_cell bG_0
  replace l_bG_1 := block_lt_of_cell bG_1
  have l_bH_0 := block_lt_of_cell bH_0
  have l_bH_1 := block_lt_of_cell bH_1
  clear hb38
  go_wp2_with fail
  refine (heldAuto_any rst (.slice aG mG cG) (numRows 1 rr) rr 1 _ om29.reads (by omega) (by omega) rfl).mono ?_
  rintro e w40 ⟨rfl, hb40⟩
  replace e0_0 := below_cell hb40 e0_0
  replace e0_1 := below_cell hb40 e0_1
  replace bW_0 := below_cell hb40 bW_0
  replace bW_1 := below_cell hb40 bW_1
  replace bX0_0 := below_cell hb40 bX0_0
  replace bX0_1 := below_cell hb40 bX0_1
  replace bG_0 := below_cell hb40 bG_0
  replace bG_1 := below_cell hb40 bG_1
  replace bH_0 := below_cell hb40 bH_0
  replace bH_1 := below_cell hb40 bH_1
  replace oW := oW.below hb40
  replace om29 := om29.below hb40
  replace oH := oH.below hb40
  replace bcum := below_trans bcum hb40
  have s_w40 : w38.heap.size + 0 ≤ w40.heap.size := by have := hb40.size; simpa using this
  replace l_e0_0 := block_lt_of_cell e0_0
  replace l_e0_1 := block_lt_of_cell e0_1
  replace l_bW_0 := block_lt_of_cell bW_0
  replace l_bW_1 := block_lt_of_cell bW_1
  replace l_bX0_0 := block_lt_of_cell bX0_0
  replace l_bX0_1 := block_lt_of_cell bX0_1
  replace l_bG_0 := block_lt_of_cell bG_0
  replace l_bG_1 := block_lt_of_cell bG_1
  replace l_bH_0 := block_lt_of_cell bH_0
  replace l_bH_1 := block_lt_of_cell bH_1
  clear hb40
  go_wp2
  go_ret
  exact ⟨rfl, bcum⟩

end Go.Proofs.Ytkmaglifohffnaa
