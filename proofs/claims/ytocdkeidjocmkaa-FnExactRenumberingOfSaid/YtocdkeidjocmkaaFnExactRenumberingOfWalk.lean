/- FnExactRenumberingOf's walk. Written by lawwalk.py. -/
import Derived.Test.YtocdkeidjocmkaaAuto
import Derived.Test.YtocdkeidjocmkaaStep
import Derived.Test.YtocdkeidjocmkaaRenLen
import Derived.Test.YtocdkeidjocmkaaRenImpl
import Derived.Deep.RegionHeld3
namespace Go.Proofs.Ytocdkeidjocmkaa
set_option linter.unusedVariables false
set_option linter.unusedSimpArgs false
open Go.ChangeShapes Go.WideShapes Go.ChangeAt Go.RowKit

set_option maxRecDepth 100000 in
set_option maxHeartbeats 8000000 in
theorem walk_FnExactRenumberingOf (w : World) (st0 : Int) (v0 : Value) (x0 : List (List Int)) (h0 : Rows2 w v0 x0) (st1 : Int) (v1 : Value) (x1 : List (List Int)) (h1 : Rows2 w v1 x1) :
    Calls Try.prog 6 #[.agg #[.int .i64 st0, v0], .agg #[.int .i64 st1, v1]] w fun e w' => e = .returned (.bool true) ∧ Below w.heap.size w w' := by
  obtain ⟨ao0, m0, c0, rfl, HM0⟩ := h0.shape
  obtain ⟨ao1, m1, c1, rfl, HM1⟩ := h1.shape
  have HSZ0 := Lib.hid (fun W l (hW : Below w.heap.size w W) (g0 : 0 ≤ l) (g1 : l ≤ 1048576) => szAuto_any st0 _ x0 l W (h0.kept hW) g0 g1)
  have HSZ1 := Lib.hid (fun W l (hW : Below w.heap.size w W) (g0 : 0 ≤ l) (g1 : l ≤ 1048576) => szAuto_any st1 _ x1 l W (h1.kept hW) g0 g1)
  go_enter Try.func6, Try.ntmps6
  have bx0 : Below w.heap.size w ((w.alloc (.cells #[.int .i64 st0, .slice ao0 m0 c0] 38)).alloc (.cells #[.int .i64 st1, .slice ao1 m1 c1] 38)) := (below_alloc (below_alloc (Below.refl _ _) _) _)
  have e0_0 : ((w.alloc (.cells #[.int .i64 st0, .slice ao0 m0 c0] 38)).alloc (.cells #[.int .i64 st1, .slice ao1 m1 c1] 38)).cell? ⟨w.heap.size, 0, none⟩ = some (.int .i64 st0) := by go_simp
  have e0_1 : ((w.alloc (.cells #[.int .i64 st0, .slice ao0 m0 c0] 38)).alloc (.cells #[.int .i64 st1, .slice ao1 m1 c1] 38)).cell? ⟨w.heap.size, 1, none⟩ = some (.slice ao0 m0 c0) := by go_simp
  have e1_0 : ((w.alloc (.cells #[.int .i64 st0, .slice ao0 m0 c0] 38)).alloc (.cells #[.int .i64 st1, .slice ao1 m1 c1] 38)).cell? ⟨w.heap.size + 1, 0, none⟩ = some (.int .i64 st1) := by go_simp
  have e1_1 : ((w.alloc (.cells #[.int .i64 st0, .slice ao0 m0 c0] 38)).alloc (.cells #[.int .i64 st1, .slice ao1 m1 c1] 38)).cell? ⟨w.heap.size + 1, 1, none⟩ = some (.slice ao1 m1 c1) := by go_simp
  go_wp2_with fail
  refine (HSZ0.out _ _ (bx0) (by omega) (by omega)).mono ?_
  rintro e w1 ⟨hb1, r0, rfl, hr0⟩
  have B2 := below_trans bx0 hb1
  replace e0_0 := below_cell hb1 e0_0
  replace e0_1 := below_cell hb1 e0_1
  replace e1_0 := below_cell hb1 e1_0
  replace e1_1 := below_cell hb1 e1_1
  have bcum := B2
  have s_w1 : w.heap.size + 2 ≤ w1.heap.size := by have := hb1.size; simpa using this
  have l_e0_0 := block_lt_of_cell e0_0
  have l_e0_1 := block_lt_of_cell e0_1
  have l_e1_0 := block_lt_of_cell e1_0
  have l_e1_1 := block_lt_of_cell e1_1
  rcases hr0 with rfl | ⟨hr00, hr0⟩
  · clear h0 h1
    go_wp2
    go_ret
    exact ⟨rfl, bcum⟩
  have hr01 : r0 ≤ 1048576 := by omega
  have hk0 : x0.length + bulk2 x0 ≤ 1048576 := by omega
  clear hr0 hb1
  go_wp2_with fail
  refine (HSZ1.out _ _ bcum (by omega) (by omega)).mono ?_
  rintro e w3 ⟨hb3, r1, rfl, hr1⟩
  replace e0_0 := below_cell hb3 e0_0
  replace e0_1 := below_cell hb3 e0_1
  replace e1_0 := below_cell hb3 e1_0
  replace e1_1 := below_cell hb3 e1_1
  replace bcum := below_trans bcum hb3
  have s_w3 : w1.heap.size + 0 ≤ w3.heap.size := by have := hb3.size; simpa using this
  replace l_e0_0 := block_lt_of_cell e0_0
  replace l_e0_1 := block_lt_of_cell e0_1
  replace l_e1_0 := block_lt_of_cell e1_0
  replace l_e1_1 := block_lt_of_cell e1_1
  rcases hr1 with rfl | ⟨hr10, hr1⟩
  · clear h0 h1
    go_wp2
    go_ret
    exact ⟨rfl, bcum⟩
  have hr11 : r1 ≤ 1048576 := by omega
  have hk1 : x1.length + bulk2 x1 ≤ 1048576 := by omega
  clear hr1 hb3
  have HT0 := Lib.hid (fun W (hW : Below w.heap.size w W) => toAuto_any st0 _ x0 W (h0.kept hW) hk0)
  have HT1 := Lib.hid (fun W (hW : Below w.heap.size w W) => toAuto_any st1 _ x1 W (h1.kept hW) hk1)
  have HT := Lib.hid (fun W st v xss (h : ArgRows w v xss) (hW : Below w.heap.size w W) => toAuto_any st v xss W (h.1.kept hW) h.2)
  have HA0 := Lib.hid (show ArgRows w (.slice ao0 m0 c0) x0 from ⟨h0, hk0⟩)
  have HA1 := Lib.hid (show ArgRows w (.slice ao1 m1 c1) x1 from ⟨h1, hk1⟩)
  have HBK := rnZs_len st0 st1 x0 x1
  have HS := Lib.hid (fun W u0 (q0 : Rows2 W u0 x0) u1 (q1 : Rows2 W u1 x1) => specRen_any st0 st1 u0 u1 x0 x1 W q0 q1)
  have HI := Lib.hid (fun W u0 (q0 : Rows2 W u0 x0) u1 (q1 : Rows2 W u1 x1) => implRen_any st0 st1 u0 u1 x0 x1 W q0 q1)
  generalize rnZs st0 st1 x0 x1 = rr at HS HI HBK
  generalize rnCd st0 st1 x0 x1 = rcd at HS HI HBK
  have hncd : (rcd != rcd) = false := by simp
  clear h0 h1
  have HX4 := Lib.hid (fun W (hW : Below w3.heap.size w3 W) u0 (q0 : Rows2 W u0 x0) u1 (q1 : Rows2 W u1 x1) => (HS.out W u0 q0 u1 q1).mono fun _ _ h => h.low hW.size)
  go_wp2
  go_region_held3 (fun w' => Below w3.heap.size w3 w' ∧ ∀ b o, b < w3.heap.size → w'.cell? ⟨b, o, none⟩ = w3.cell? ⟨b, o, none⟩) (first | exact held_start | assumption | exact held_nx (by assumption) (by assumption) | exact held_alloc (by assumption)) (first | (go_simp; go_at_call 19; refine (HT.out _ _ _ _ (by first | exact HA0.out | exact HA1.out) (below_trans bcum (And.left (by assumption)))).mono ?_; rintro e wt ⟨vt, rsq, rfl, ot, hbt⟩; obtain ⟨at0, mt, ct, rfl, HMt⟩ := own_shape ot.outer) | (go_simp; go_at_call 31; refine (HX4.out _ (And.left (by assumption)) _ (by first | exact OwnRows.reads (by assumption) | exact (OwnRows.reads (by assumption)).kept (by assumption)) _ (by first | exact OwnRows.reads (by assumption) | exact (OwnRows.reads (by assumption)).kept (by assumption))).mono ?_; rintro e w4 ⟨vW, rfl, oW, hb4⟩; obtain ⟨aW, mW, cW, rfl, HMW⟩ := own_shape oW))
  all_goals
    rename Below w3.heap.size w3 w4 ∧ _ => hS
    obtain ⟨hw4, hcs⟩ := hS
    clear hcs
    replace e0_0 := below_cell hw4 e0_0
    replace e0_1 := below_cell hw4 e0_1
    replace e1_0 := below_cell hw4 e1_0
    replace e1_1 := below_cell hw4 e1_1
    replace bcum := below_trans bcum hw4
    have s_w4 : w3.heap.size + 0 ≤ w4.heap.size := by have := hw4.size; simpa using this
    replace l_e0_0 := block_lt_of_cell e0_0
    replace l_e0_1 := block_lt_of_cell e0_1
    replace l_e1_0 := block_lt_of_cell e1_0
    replace l_e1_1 := block_lt_of_cell e1_1
    have in_W := own_within oW
    go_wp2_with fail
    refine (HT0.out _ bcum).mono ?_
    rintro e w5 ⟨vX0, rsX0, rfl, oX0, hb5⟩
    replace e0_0 := below_cell hb5 e0_0
    replace e0_1 := below_cell hb5 e0_1
    replace e1_0 := below_cell hb5 e1_0
    replace e1_1 := below_cell hb5 e1_1
    replace oW := own_below oW hb5
    replace bcum := below_trans bcum hb5
    have s_w5 : w4.heap.size + 0 ≤ w5.heap.size := by have := hb5.size; simpa using this
    replace l_e0_0 := block_lt_of_cell e0_0
    replace l_e0_1 := block_lt_of_cell e0_1
    replace l_e1_0 := block_lt_of_cell e1_0
    replace l_e1_1 := block_lt_of_cell e1_1
    obtain ⟨aX0, mX0, cX0, rfl, HMX0⟩ := own_shape oX0.outer
    have in_X0 := oX0.within
    have in_X0n : RowsIn (w4.heap.size + 0) w5.heap.size (.slice aX0 mX0 cX0) rsX0 (x0).length := by simpa using in_X0
    have oX0n := oX0
    clear in_X0
    clear oX0n
    clear hb5
    have bx7 : Below w5.heap.size w5 (w5.alloc (.cells #[.int .i64 st0, .slice aX0 mX0 cX0] 44)) := below_alloc (Below.refl _ _) _
    have bX0_0 : (w5.alloc (.cells #[.int .i64 st0, .slice aX0 mX0 cX0] 44)).cell? ⟨w5.heap.size, 0, none⟩ = some (.int .i64 st0) := by go_simp
    have bX0_1 : (w5.alloc (.cells #[.int .i64 st0, .slice aX0 mX0 cX0] 44)).cell? ⟨w5.heap.size, 1, none⟩ = some (.slice aX0 mX0 cX0) := by go_simp
    go_wp2_with fail
    refine (HT1.out _ (below_trans bcum bx7)).mono ?_
    rintro e w8 ⟨vX1, rsX1, rfl, oX1, hb8⟩
    have B9 := below_trans bx7 hb8
    replace e0_0 := below_cell B9 e0_0
    replace e0_1 := below_cell B9 e0_1
    replace e1_0 := below_cell B9 e1_0
    replace e1_1 := below_cell B9 e1_1
    replace bX0_0 := below_cell hb8 bX0_0
    replace bX0_1 := below_cell hb8 bX0_1
    replace oW := own_below oW B9
    replace oX0 := oX0.below B9
    replace bcum := below_trans bcum B9
    have s_w8 : w5.heap.size + 1 ≤ w8.heap.size := by have := hb8.size; simpa using this
    replace l_e0_0 := block_lt_of_cell e0_0
    replace l_e0_1 := block_lt_of_cell e0_1
    replace l_e1_0 := block_lt_of_cell e1_0
    replace l_e1_1 := block_lt_of_cell e1_1
    have l_bX0_0 := block_lt_of_cell bX0_0
    have l_bX0_1 := block_lt_of_cell bX0_1
    obtain ⟨aX1, mX1, cX1, rfl, HMX1⟩ := own_shape oX1.outer
    have in_X1 := oX1.within
    have in_X1n : RowsIn (w5.heap.size + 1) w8.heap.size (.slice aX1 mX1 cX1) rsX1 (x1).length := by simpa using in_X1
    have oX1n := oX1
    clear in_X1
    clear oX1n
    clear hb8
    have bx11 : Below w8.heap.size w8 (w8.alloc (.cells #[.int .i64 st1, .slice aX1 mX1 cX1] 44)) := below_alloc (Below.refl _ _) _
    have bX1_0 : (w8.alloc (.cells #[.int .i64 st1, .slice aX1 mX1 cX1] 44)).cell? ⟨w8.heap.size, 0, none⟩ = some (.int .i64 st1) := by go_simp
    have bX1_1 : (w8.alloc (.cells #[.int .i64 st1, .slice aX1 mX1 cX1] 44)).cell? ⟨w8.heap.size, 1, none⟩ = some (.slice aX1 mX1 cX1) := by go_simp
    go_wp2_with fail
    refine (HI.out _ _ (oX0.reads.kept bx11) _ (oX1.reads.kept bx11)).mono ?_
    rintro e w12 ⟨vG, rfl, oG, hb12⟩
    have B13 := below_trans bx11 hb12
    replace e0_0 := below_cell B13 e0_0
    replace e0_1 := below_cell B13 e0_1
    replace e1_0 := below_cell B13 e1_0
    replace e1_1 := below_cell B13 e1_1
    replace bX0_0 := below_cell B13 bX0_0
    replace bX0_1 := below_cell B13 bX0_1
    replace bX1_0 := below_cell hb12 bX1_0
    replace bX1_1 := below_cell hb12 bX1_1
    replace oW := own_below oW B13
    replace oX0 := oX0.below B13
    replace oX1 := oX1.below B13
    replace bcum := below_trans bcum B13
    have s_w12 : w8.heap.size + 1 ≤ w12.heap.size := by have := hb12.size; simpa using this
    replace l_e0_0 := block_lt_of_cell e0_0
    replace l_e0_1 := block_lt_of_cell e0_1
    replace l_e1_0 := block_lt_of_cell e1_0
    replace l_e1_1 := block_lt_of_cell e1_1
    replace l_bX0_0 := block_lt_of_cell bX0_0
    replace l_bX0_1 := block_lt_of_cell bX0_1
    have l_bX1_0 := block_lt_of_cell bX1_0
    have l_bX1_1 := block_lt_of_cell bX1_1
    obtain ⟨aG, mG, cG, rfl, HMG⟩ := own_shape oG
    have in_G := own_within oG
    have in_Gn : IntsIn (w8.heap.size + 1) w12.heap.size (.slice aG mG cG) := by simpa using in_G
    have oGn := oG
    clear in_G
    clear oGn
    clear hb12
    go_wp2_with fail
    refine (eqInts_yes (.slice aG mG cG) (.slice aW mW cW) rr _ (ints_of_own oG) (ints_of_own oW)).mono ?_
    rintro e w15 ⟨rfl, hb15⟩
    replace e0_0 := below_cell hb15 e0_0
    replace e0_1 := below_cell hb15 e0_1
    replace e1_0 := below_cell hb15 e1_0
    replace e1_1 := below_cell hb15 e1_1
    replace bX0_0 := below_cell hb15 bX0_0
    replace bX0_1 := below_cell hb15 bX0_1
    replace bX1_0 := below_cell hb15 bX1_0
    replace bX1_1 := below_cell hb15 bX1_1
    replace oW := own_below oW hb15
    replace oX0 := oX0.below hb15
    replace oX1 := oX1.below hb15
    replace oG := own_below oG hb15
    replace bcum := below_trans bcum hb15
    have s_w15 : w12.heap.size + 0 ≤ w15.heap.size := by have := hb15.size; simpa using this
    replace l_e0_0 := block_lt_of_cell e0_0
    replace l_e0_1 := block_lt_of_cell e0_1
    replace l_e1_0 := block_lt_of_cell e1_0
    replace l_e1_1 := block_lt_of_cell e1_1
    replace l_bX0_0 := block_lt_of_cell bX0_0
    replace l_bX0_1 := block_lt_of_cell bX0_1
    replace l_bX1_0 := block_lt_of_cell bX1_0
    replace l_bX1_1 := block_lt_of_cell bX1_1
    clear hb15
    have HE16 := Lib.hid (fun W u (hW : Below w15.heap.size w15 W) (q : Rows2 W u x0) => eqAuto_yes st0 (.slice aX0 mX0 cX0) u x0 W (oX0.reads.kept hW) q)
    go_wp2
    go_region_held3 (fun w' => Below w15.heap.size w15 w' ∧ ∀ b o, b < w15.heap.size → w'.cell? ⟨b, o, none⟩ = w15.cell? ⟨b, o, none⟩) (first | exact held_start | assumption | exact held_nx (by assumption) (by assumption) | exact held_alloc (by assumption)) (first | (go_simp; go_at_call 19; refine (HT0.out _ (below_trans bcum (And.left (by assumption)))).mono ?_; rintro e wt ⟨vt, rsq, rfl, ot, hbt⟩; obtain ⟨at1, mt1, ct1, rfl, HMt1⟩ := own_shape ot.outer) | (go_simp; go_at_call 22; refine (HE16.out _ _ (And.left (by assumption)) (by exact OwnRows.reads (by assumption))).mono ?_; rintro e w16 ⟨rfl, hb16⟩))
    rename Below w15.heap.size w15 w16 ∧ _ => hS
    obtain ⟨hw16, hcs⟩ := hS
    clear hcs
    replace e0_0 := below_cell hw16 e0_0
    replace e0_1 := below_cell hw16 e0_1
    replace e1_0 := below_cell hw16 e1_0
    replace e1_1 := below_cell hw16 e1_1
    replace bX0_0 := below_cell hw16 bX0_0
    replace bX0_1 := below_cell hw16 bX0_1
    replace bX1_0 := below_cell hw16 bX1_0
    replace bX1_1 := below_cell hw16 bX1_1
    replace oW := own_below oW hw16
    replace oX0 := oX0.below hw16
    replace oX1 := oX1.below hw16
    replace oG := own_below oG hw16
    replace bcum := below_trans bcum hw16
    have s_w16 : w15.heap.size + 0 ≤ w16.heap.size := by have := hw16.size; simpa using this
    replace l_e0_0 := block_lt_of_cell e0_0
    replace l_e0_1 := block_lt_of_cell e0_1
    replace l_e1_0 := block_lt_of_cell e1_0
    replace l_e1_1 := block_lt_of_cell e1_1
    replace l_bX0_0 := block_lt_of_cell bX0_0
    replace l_bX0_1 := block_lt_of_cell bX0_1
    replace l_bX1_0 := block_lt_of_cell bX1_0
    replace l_bX1_1 := block_lt_of_cell bX1_1
    clear HE16 hw16
    have HE17 := Lib.hid (fun W u (hW : Below w16.heap.size w16 W) (q : Rows2 W u x1) => eqAuto_yes st1 (.slice aX1 mX1 cX1) u x1 W (oX1.reads.kept hW) q)
    go_wp2
    go_region_held3 (fun w' => Below w16.heap.size w16 w' ∧ ∀ b o, b < w16.heap.size → w'.cell? ⟨b, o, none⟩ = w16.cell? ⟨b, o, none⟩) (first | exact held_start | assumption | exact held_nx (by assumption) (by assumption) | exact held_alloc (by assumption)) (first | (go_simp; go_at_call 19; refine (HT1.out _ (below_trans bcum (And.left (by assumption)))).mono ?_; rintro e wt ⟨vt, rsq, rfl, ot, hbt⟩; obtain ⟨at1, mt1, ct1, rfl, HMt1⟩ := own_shape ot.outer) | (go_simp; go_at_call 22; refine (HE17.out _ _ (And.left (by assumption)) (by exact OwnRows.reads (by assumption))).mono ?_; rintro e w17 ⟨rfl, hb17⟩))
    rename Below w16.heap.size w16 w17 ∧ _ => hS
    obtain ⟨hw17, hcs⟩ := hS
    clear hcs
    replace e0_0 := below_cell hw17 e0_0
    replace e0_1 := below_cell hw17 e0_1
    replace e1_0 := below_cell hw17 e1_0
    replace e1_1 := below_cell hw17 e1_1
    replace bX0_0 := below_cell hw17 bX0_0
    replace bX0_1 := below_cell hw17 bX0_1
    replace bX1_0 := below_cell hw17 bX1_0
    replace bX1_1 := below_cell hw17 bX1_1
    replace oW := own_below oW hw17
    replace oX0 := oX0.below hw17
    replace oX1 := oX1.below hw17
    replace oG := own_below oG hw17
    replace bcum := below_trans bcum hw17
    have s_w17 : w16.heap.size + 0 ≤ w17.heap.size := by have := hw17.size; simpa using this
    replace l_e0_0 := block_lt_of_cell e0_0
    replace l_e0_1 := block_lt_of_cell e0_1
    replace l_e1_0 := block_lt_of_cell e1_0
    replace l_e1_1 := block_lt_of_cell e1_1
    replace l_bX0_0 := block_lt_of_cell bX0_0
    replace l_bX0_1 := block_lt_of_cell bX0_1
    replace l_bX1_0 := block_lt_of_cell bX1_0
    replace l_bX1_1 := block_lt_of_cell bX1_1
    clear HE17 hw17
    replace oX0 := oX0.low2 (lo2 := w4.heap.size + 0) in_X0n
    go_wp2_with fail
    refine (markAuto_any st0 (.slice aX0 mX0 cX0) (w4.heap.size + 0) (w5.heap.size) _ x0 _ _ oX0 in_X0n (by omega) (by omega) (by omega)).mono ?_
    rintro e w18 ⟨rfl, om18, hch18⟩
    replace e0_0 := hch18.cell e0_0 (by omega)
    replace e0_1 := hch18.cell e0_1 (by omega)
    replace e1_0 := hch18.cell e1_0 (by omega)
    replace e1_1 := hch18.cell e1_1 (by omega)
    replace bX0_0 := hch18.cell bX0_0 (by omega)
    replace bX0_1 := hch18.cell bX0_1 (by omega)
    replace bX1_0 := hch18.cell bX1_0 (by omega)
    replace bX1_1 := hch18.cell bX1_1 (by omega)
    replace oW := own_chg' oW in_W hch18 (by omega)
    replace oX1 := oX1.chg in_X1n hch18 (by omega)
    replace oG := own_chg' oG in_Gn hch18 (by omega)
    replace bcum := bcum.trans ((hch18.below (by omega)).mono (by omega))
    have s_w18 : w17.heap.size ≤ w18.heap.size := hch18.size
    replace l_e0_0 := block_lt_of_cell e0_0
    replace l_e0_1 := block_lt_of_cell e0_1
    replace l_e1_0 := block_lt_of_cell e1_0
    replace l_e1_1 := block_lt_of_cell e1_1
    replace l_bX0_0 := block_lt_of_cell bX0_0
    replace l_bX0_1 := block_lt_of_cell bX0_1
    replace l_bX1_0 := block_lt_of_cell bX1_0
    replace l_bX1_1 := block_lt_of_cell bX1_1
    clear om18 hch18
    replace oX1 := oX1.low2 (lo2 := w5.heap.size + 1) in_X1n
    go_wp2_with fail
    refine (markAuto_any st1 (.slice aX1 mX1 cX1) (w5.heap.size + 1) (w8.heap.size) _ x1 _ _ oX1 in_X1n (by omega) (by omega) (by omega)).mono ?_
    rintro e w19 ⟨rfl, om19, hch19⟩
    replace e0_0 := hch19.cell e0_0 (by omega)
    replace e0_1 := hch19.cell e0_1 (by omega)
    replace e1_0 := hch19.cell e1_0 (by omega)
    replace e1_1 := hch19.cell e1_1 (by omega)
    replace bX0_0 := hch19.cell bX0_0 (by omega)
    replace bX0_1 := hch19.cell bX0_1 (by omega)
    replace bX1_0 := hch19.cell bX1_0 (by omega)
    replace bX1_1 := hch19.cell bX1_1 (by omega)
    replace oW := own_chg' oW in_W hch19 (by omega)
    replace oG := own_chg' oG in_Gn hch19 (by omega)
    replace bcum := bcum.trans ((hch19.below (by omega)).mono (by omega))
    have s_w19 : w18.heap.size ≤ w19.heap.size := hch19.size
    replace l_e0_0 := block_lt_of_cell e0_0
    replace l_e0_1 := block_lt_of_cell e0_1
    replace l_e1_0 := block_lt_of_cell e1_0
    replace l_e1_1 := block_lt_of_cell e1_1
    replace l_bX0_0 := block_lt_of_cell bX0_0
    replace l_bX0_1 := block_lt_of_cell bX0_1
    replace l_bX1_0 := block_lt_of_cell bX1_0
    replace l_bX1_1 := block_lt_of_cell bX1_1
    clear om19 hch19
    have hdk : decide ((((1 : Int) + (bulk2 x0 : Int)) + (bulk2 x1 : Int)) < 0) = false := decide_eq_false (by omega)
    go_wp2_with fail
    refine (eqInts_yes (.slice aG mG cG) (.slice aW mW cW) rr _ (ints_of_own oG) (ints_of_own oW)).mono ?_
    rintro e w20 ⟨rfl, hb20⟩
    replace e0_0 := below_cell hb20 e0_0
    replace e0_1 := below_cell hb20 e0_1
    replace e1_0 := below_cell hb20 e1_0
    replace e1_1 := below_cell hb20 e1_1
    replace bX0_0 := below_cell hb20 bX0_0
    replace bX0_1 := below_cell hb20 bX0_1
    replace bX1_0 := below_cell hb20 bX1_0
    replace bX1_1 := below_cell hb20 bX1_1
    replace oW := own_below oW hb20
    replace oG := own_below oG hb20
    replace bcum := below_trans bcum hb20
    have s_w20 : w19.heap.size + 0 ≤ w20.heap.size := by have := hb20.size; simpa using this
    replace l_e0_0 := block_lt_of_cell e0_0
    replace l_e0_1 := block_lt_of_cell e0_1
    replace l_e1_0 := block_lt_of_cell e1_0
    replace l_e1_1 := block_lt_of_cell e1_1
    replace l_bX0_0 := block_lt_of_cell bX0_0
    replace l_bX0_1 := block_lt_of_cell bX0_1
    replace l_bX1_0 := block_lt_of_cell bX1_0
    replace l_bX1_1 := block_lt_of_cell bX1_1
    clear hb20
    replace oG := own_lo2 (lo2 := w8.heap.size + 1) oG in_Gn
    go_wp2_with fail
    refine (markInts_chg (.slice aG mG cG) (w8.heap.size + 1) (w12.heap.size) rr _ _ oG in_Gn (by omega) (by omega)).mono ?_
    rintro e w21 ⟨rfl, om21, hch21⟩
    replace e0_0 := hch21.cell e0_0 (by omega)
    replace e0_1 := hch21.cell e0_1 (by omega)
    replace e1_0 := hch21.cell e1_0 (by omega)
    replace e1_1 := hch21.cell e1_1 (by omega)
    replace bX0_0 := hch21.cell bX0_0 (by omega)
    replace bX0_1 := hch21.cell bX0_1 (by omega)
    replace bX1_0 := hch21.cell bX1_0 (by omega)
    replace bX1_1 := hch21.cell bX1_1 (by omega)
    replace oW := own_chg' oW in_W hch21 (by omega)
    replace bcum := bcum.trans ((hch21.below (by omega)).mono (by omega))
    have s_w21 : w20.heap.size ≤ w21.heap.size := hch21.size
    replace l_e0_0 := block_lt_of_cell e0_0
    replace l_e0_1 := block_lt_of_cell e0_1
    replace l_e1_0 := block_lt_of_cell e1_0
    replace l_e1_1 := block_lt_of_cell e1_1
    replace l_bX0_0 := block_lt_of_cell bX0_0
    replace l_bX0_1 := block_lt_of_cell bX0_1
    replace l_bX1_0 := block_lt_of_cell bX1_0
    replace l_bX1_1 := block_lt_of_cell bX1_1
    clear oG hch21
    have hneq : ((1 + (rr.length : Int)) != 1 + (rr.length : Int)) = false := by simp
    have hdq : decide (1 + (rr.length : Int) < 0) = false := decide_eq_false (by omega)
    go_wp2_with fail
    refine (heldInts_ret (.slice aG mG cG) (run 1 rr.length) rr.length 1 _ (ints_of_own om21) (by omega) (by omega) rfl).mono ?_
    rintro e w22 ⟨rfl, hb22⟩
    replace e0_0 := below_cell hb22 e0_0
    replace e0_1 := below_cell hb22 e0_1
    replace e1_0 := below_cell hb22 e1_0
    replace e1_1 := below_cell hb22 e1_1
    replace bX0_0 := below_cell hb22 bX0_0
    replace bX0_1 := below_cell hb22 bX0_1
    replace bX1_0 := below_cell hb22 bX1_0
    replace bX1_1 := below_cell hb22 bX1_1
    replace oW := own_below oW hb22
    replace om21 := own_below om21 hb22
    replace bcum := below_trans bcum hb22
    have s_w22 : w21.heap.size + 0 ≤ w22.heap.size := by have := hb22.size; simpa using this
    replace l_e0_0 := block_lt_of_cell e0_0
    replace l_e0_1 := block_lt_of_cell e0_1
    replace l_e1_0 := block_lt_of_cell e1_0
    replace l_e1_1 := block_lt_of_cell e1_1
    replace l_bX0_0 := block_lt_of_cell bX0_0
    replace l_bX0_1 := block_lt_of_cell bX0_1
    replace l_bX1_0 := block_lt_of_cell bX1_0
    replace l_bX1_1 := block_lt_of_cell bX1_1
    clear hb22
    have HX23 := Lib.hid (fun W (hW : Below w22.heap.size w22 W) u0 (q0 : Rows2 W u0 x0) u1 (q1 : Rows2 W u1 x1) => (HI.out W u0 q0 u1 q1).mono fun _ _ h => h.low hW.size)
    go_wp2
    go_region_held3 (fun w' => Below w22.heap.size w22 w' ∧ ∀ b o, b < w22.heap.size → w'.cell? ⟨b, o, none⟩ = w22.cell? ⟨b, o, none⟩) (first | exact held_start | assumption | exact held_nx (by assumption) (by assumption) | exact held_alloc (by assumption)) (first | (go_simp; go_at_call 19; refine (HT.out _ _ _ _ (by first | exact HA0.out | exact HA1.out) (below_trans bcum (And.left (by assumption)))).mono ?_; rintro e wt ⟨vt, rsq, rfl, ot, hbt⟩; obtain ⟨at0, mt, ct, rfl, HMt⟩ := own_shape ot.outer) | (go_simp; go_at_call 32; refine (HX23.out _ (And.left (by assumption)) _ (by first | exact OwnRows.reads (by assumption) | exact (OwnRows.reads (by assumption)).kept (by assumption)) _ (by first | exact OwnRows.reads (by assumption) | exact (OwnRows.reads (by assumption)).kept (by assumption))).mono ?_; rintro e w23 ⟨vH, rfl, oH, hb23⟩; obtain ⟨aH, mH, cH, rfl, HMH⟩ := own_shape oH))
    all_goals
      rename Below w22.heap.size w22 w23 ∧ _ => hS
      obtain ⟨hw23, hcs⟩ := hS
      clear hcs
      replace e0_0 := below_cell hw23 e0_0
      replace e0_1 := below_cell hw23 e0_1
      replace e1_0 := below_cell hw23 e1_0
      replace e1_1 := below_cell hw23 e1_1
      replace bX0_0 := below_cell hw23 bX0_0
      replace bX0_1 := below_cell hw23 bX0_1
      replace bX1_0 := below_cell hw23 bX1_0
      replace bX1_1 := below_cell hw23 bX1_1
      replace oW := own_below oW hw23
      replace om21 := own_below om21 hw23
      replace bcum := below_trans bcum hw23
      have s_w23 : w22.heap.size + 0 ≤ w23.heap.size := by have := hw23.size; simpa using this
      replace l_e0_0 := block_lt_of_cell e0_0
      replace l_e0_1 := block_lt_of_cell e0_1
      replace l_e1_0 := block_lt_of_cell e1_0
      replace l_e1_1 := block_lt_of_cell e1_1
      replace l_bX0_0 := block_lt_of_cell bX0_0
      replace l_bX0_1 := block_lt_of_cell bX0_1
      replace l_bX1_0 := block_lt_of_cell bX1_0
      replace l_bX1_1 := block_lt_of_cell bX1_1
      have in_H := own_within oH
      go_wp2_with fail
      refine (eqInts_yes (.slice aH mH cH) (.slice aW mW cW) rr _ (ints_of_own oH) (ints_of_own oW)).mono ?_
      rintro e w24 ⟨rfl, hb24⟩
      replace e0_0 := below_cell hb24 e0_0
      replace e0_1 := below_cell hb24 e0_1
      replace e1_0 := below_cell hb24 e1_0
      replace e1_1 := below_cell hb24 e1_1
      replace bX0_0 := below_cell hb24 bX0_0
      replace bX0_1 := below_cell hb24 bX0_1
      replace bX1_0 := below_cell hb24 bX1_0
      replace bX1_1 := below_cell hb24 bX1_1
      replace oW := own_below oW hb24
      replace om21 := own_below om21 hb24
      replace oH := own_below oH hb24
      replace bcum := below_trans bcum hb24
      have s_w24 : w23.heap.size + 0 ≤ w24.heap.size := by have := hb24.size; simpa using this
      replace l_e0_0 := block_lt_of_cell e0_0
      replace l_e0_1 := block_lt_of_cell e0_1
      replace l_e1_0 := block_lt_of_cell e1_0
      replace l_e1_1 := block_lt_of_cell e1_1
      replace l_bX0_0 := block_lt_of_cell bX0_0
      replace l_bX0_1 := block_lt_of_cell bX0_1
      replace l_bX1_0 := block_lt_of_cell bX1_0
      replace l_bX1_1 := block_lt_of_cell bX1_1
      clear hb24
      go_wp2_with fail
      refine (heldInts_ret (.slice aG mG cG) (run 1 rr.length) rr.length 1 _ (ints_of_own om21) (by omega) (by omega) rfl).mono ?_
      rintro e w25 ⟨rfl, hb25⟩
      replace e0_0 := below_cell hb25 e0_0
      replace e0_1 := below_cell hb25 e0_1
      replace e1_0 := below_cell hb25 e1_0
      replace e1_1 := below_cell hb25 e1_1
      replace bX0_0 := below_cell hb25 bX0_0
      replace bX0_1 := below_cell hb25 bX0_1
      replace bX1_0 := below_cell hb25 bX1_0
      replace bX1_1 := below_cell hb25 bX1_1
      replace oW := own_below oW hb25
      replace om21 := own_below om21 hb25
      replace oH := own_below oH hb25
      replace bcum := below_trans bcum hb25
      have s_w25 : w24.heap.size + 0 ≤ w25.heap.size := by have := hb25.size; simpa using this
      replace l_e0_0 := block_lt_of_cell e0_0
      replace l_e0_1 := block_lt_of_cell e0_1
      replace l_e1_0 := block_lt_of_cell e1_0
      replace l_e1_1 := block_lt_of_cell e1_1
      replace l_bX0_0 := block_lt_of_cell bX0_0
      replace l_bX0_1 := block_lt_of_cell bX0_1
      replace l_bX1_0 := block_lt_of_cell bX1_0
      replace l_bX1_1 := block_lt_of_cell bX1_1
      clear hb25
      go_wp2
      go_ret
      exact ⟨rfl, bcum⟩

end Go.Proofs.Ytocdkeidjocmkaa
