/- FnExactDirectingWord's walk. Written by lawwalk.py. -/
import Derived.Test.YtocdkeidjocmkaaCube
import Derived.Test.YtocdkeidjocmkaaCubeTo
import Derived.Test.YtocdkeidjocmkaaStep
import Derived.Test.YtocdkeidjocmkaaDirImpl
import Derived.Deep.RegionHeld3
namespace Go.Proofs.Ytocdkeidjocmkaa
set_option linter.unusedVariables false
set_option linter.unusedSimpArgs false
open Go.ChangeShapes Go.WideShapes Go.ChangeAt Go.RowKit

set_option maxRecDepth 100000 in
set_option maxHeartbeats 8000000 in
theorem walk_FnExactDirectingWord (w : World) (st0 : Int) (v0 : Value) (x0 : List (List (List Int))) (h0 : Rows3 w v0 x0) (z1 : Int) :
    Calls Try.prog 7 #[.agg #[.int .i64 st0, v0], .int .i64 z1] w fun e w' => e = .returned (.bool true) ∧ Below w.heap.size w w' := by
  obtain ⟨ao0, m0, c0, rfl, HM0⟩ := h0.shape
  have HSZ0 := Lib.hid (fun W l (hW : Below w.heap.size w W) (g0 : 0 ≤ l) (g1 : l ≤ 1048576) => szChoice_any st0 _ x0 l W (h0.kept hW) g0 g1)
  go_enter Try.func7, Try.ntmps7
  have bx0 : Below w.heap.size w (w.alloc (.cells #[.int .i64 st0, .slice ao0 m0 c0] 61)) := (below_alloc (Below.refl _ _) _)
  have e0_0 : (w.alloc (.cells #[.int .i64 st0, .slice ao0 m0 c0] 61)).cell? ⟨w.heap.size, 0, none⟩ = some (.int .i64 st0) := by go_simp
  have e0_1 : (w.alloc (.cells #[.int .i64 st0, .slice ao0 m0 c0] 61)).cell? ⟨w.heap.size, 1, none⟩ = some (.slice ao0 m0 c0) := by go_simp
  go_wp2_with fail
  refine (HSZ0.out _ _ (bx0) (by omega) (by omega)).mono ?_
  rintro e w1 ⟨hb1, r0, rfl, hr0⟩
  have B2 := below_trans bx0 hb1
  replace e0_0 := below_cell hb1 e0_0
  replace e0_1 := below_cell hb1 e0_1
  have bcum := B2
  have s_w1 : w.heap.size + 1 ≤ w1.heap.size := by have := hb1.size; simpa using this
  have l_e0_0 := block_lt_of_cell e0_0
  have l_e0_1 := block_lt_of_cell e0_1
  rcases hr0 with rfl | ⟨hr00, hr0⟩
  · clear h0
    go_wp2
    go_ret
    exact ⟨rfl, bcum⟩
  have hr01 : r0 ≤ 1048576 := by omega
  have hk0 : x0.length + bulk3 x0 ≤ 1048576 := by omega
  clear hr0 hb1
  have HT0 := Lib.hid (fun W (hW : Below w.heap.size w W) => toChoiceIn_any st0 _ x0 W (h0.kept hW) hk0)
  have HBK := dwZs_len st0 x0 z1
  have HS := Lib.hid (fun W u0 (q0 : Rows3 W u0 x0) => specDirect_any st0 u0 x0 z1 W q0)
  have HI := Lib.hid (fun W u0 (q0 : Rows3 W u0 x0) => implDirect_any st0 u0 x0 z1 W q0)
  generalize dwZs st0 x0 z1 = rr at HS HI HBK
  generalize dwCd st0 x0 z1 = rcd at HS HI HBK
  have hbN := bulkN_le3 x0
  have hncd : (rcd != rcd) = false := by simp
  clear h0
  go_wp2_with fail
  refine (HT0.out _ bcum).mono ?_
  rintro e w3 ⟨vt0, rst0, rfl, ot0, hb3⟩
  replace e0_0 := below_cell hb3 e0_0
  replace e0_1 := below_cell hb3 e0_1
  replace bcum := below_trans bcum hb3
  have s_w3 : w1.heap.size + 0 ≤ w3.heap.size := by have := hb3.size; simpa using this
  replace l_e0_0 := block_lt_of_cell e0_0
  replace l_e0_1 := block_lt_of_cell e0_1
  obtain ⟨at0, mt0, ct0, rfl, HMt0⟩ := own_shape ot0.outer
  have in_t0 := ot0.within
  have in_t0n := True.intro
  have ot0 : CubeIn w3 (w1.heap.size + 0) w3.heap.size (.slice at0 mt0 ct0) rst0 (x0) := by simpa using ot0
  have ot0n := ot0
  clear in_t0
  clear ot0n
  clear hb3
  go_wp2_with fail
  refine (HS.out _ _ ot0.reads).mono ?_
  rintro e w5 ⟨vW, rfl, oW, hb5⟩
  replace e0_0 := below_cell hb5 e0_0
  replace e0_1 := below_cell hb5 e0_1
  replace ot0 := ot0.below hb5
  replace bcum := below_trans bcum hb5
  have s_w5 : w3.heap.size + 0 ≤ w5.heap.size := by have := hb5.size; simpa using this
  replace l_e0_0 := block_lt_of_cell e0_0
  replace l_e0_1 := block_lt_of_cell e0_1
  obtain ⟨aW, mW, cW, rfl, HMW⟩ := own_shape oW
  have in_W := own_within oW
  have in_Wn : IntsIn (w3.heap.size + 0) w5.heap.size (.slice aW mW cW) := by simpa using in_W
  have oWn := oW
  clear in_W
  clear oWn
  clear hb5
  go_wp2_with fail
  refine (HT0.out _ bcum).mono ?_
  rintro e w7 ⟨vX0, rsX0, rfl, oX0, hb7⟩
  replace e0_0 := below_cell hb7 e0_0
  replace e0_1 := below_cell hb7 e0_1
  replace oW := own_below oW hb7
  replace bcum := below_trans bcum hb7
  have s_w7 : w5.heap.size + 0 ≤ w7.heap.size := by have := hb7.size; simpa using this
  replace l_e0_0 := block_lt_of_cell e0_0
  replace l_e0_1 := block_lt_of_cell e0_1
  obtain ⟨aX0, mX0, cX0, rfl, HMX0⟩ := own_shape oX0.outer
  have in_X0 := oX0.within
  have in_X0n := True.intro
  have oX0 : CubeIn w7 (w5.heap.size + 0) w7.heap.size (.slice aX0 mX0 cX0) rsX0 (x0) := by simpa using oX0
  have oX0n := oX0
  clear in_X0
  clear oX0n
  clear hb7
  have bx9 : Below w7.heap.size w7 (w7.alloc (.cells #[.int .i64 st0, .slice aX0 mX0 cX0] 28)) := below_alloc (Below.refl _ _) _
  have bX0_0 : (w7.alloc (.cells #[.int .i64 st0, .slice aX0 mX0 cX0] 28)).cell? ⟨w7.heap.size, 0, none⟩ = some (.int .i64 st0) := by go_simp
  have bX0_1 : (w7.alloc (.cells #[.int .i64 st0, .slice aX0 mX0 cX0] 28)).cell? ⟨w7.heap.size, 1, none⟩ = some (.slice aX0 mX0 cX0) := by go_simp
  go_wp2_with fail
  refine (HI.out _ _ (oX0.reads.kept bx9)).mono ?_
  rintro e w10 ⟨vG, rfl, oG, hb10⟩
  have B11 := below_trans bx9 hb10
  replace e0_0 := below_cell B11 e0_0
  replace e0_1 := below_cell B11 e0_1
  replace bX0_0 := below_cell hb10 bX0_0
  replace bX0_1 := below_cell hb10 bX0_1
  replace oW := own_below oW B11
  replace oX0 := oX0.below B11
  replace bcum := below_trans bcum B11
  have s_w10 : w7.heap.size + 1 ≤ w10.heap.size := by have := hb10.size; simpa using this
  replace l_e0_0 := block_lt_of_cell e0_0
  replace l_e0_1 := block_lt_of_cell e0_1
  have l_bX0_0 := block_lt_of_cell bX0_0
  have l_bX0_1 := block_lt_of_cell bX0_1
  obtain ⟨aG, mG, cG, rfl, HMG⟩ := own_shape oG
  have in_G := own_within oG
  have in_Gn : IntsIn (w7.heap.size + 1) w10.heap.size (.slice aG mG cG) := by simpa using in_G
  have oGn := oG
  clear in_G
  clear oGn
  clear hb10
  go_wp2_with fail
  refine (eqInts_yes (.slice aG mG cG) (.slice aW mW cW) rr _ (ints_of_own oG) (ints_of_own oW)).mono ?_
  rintro e w13 ⟨rfl, hb13⟩
  replace e0_0 := below_cell hb13 e0_0
  replace e0_1 := below_cell hb13 e0_1
  replace bX0_0 := below_cell hb13 bX0_0
  replace bX0_1 := below_cell hb13 bX0_1
  replace oW := own_below oW hb13
  replace oX0 := oX0.below hb13
  replace oG := own_below oG hb13
  replace bcum := below_trans bcum hb13
  have s_w13 : w10.heap.size + 0 ≤ w13.heap.size := by have := hb13.size; simpa using this
  replace l_e0_0 := block_lt_of_cell e0_0
  replace l_e0_1 := block_lt_of_cell e0_1
  replace l_bX0_0 := block_lt_of_cell bX0_0
  replace l_bX0_1 := block_lt_of_cell bX0_1
  clear hb13
  have HE14 := Lib.hid (fun W u (hW : Below w13.heap.size w13 W) (q : Rows3 W u x0) => eqChoice_yes st0 (.slice aX0 mX0 cX0) u x0 W (oX0.reads.kept hW) q)
  go_wp2
  go_region_held3 (fun w' => Below w13.heap.size w13 w' ∧ ∀ b o, b < w13.heap.size → w'.cell? ⟨b, o, none⟩ = w13.cell? ⟨b, o, none⟩) (first | exact held_start | assumption | exact held_nx (by assumption) (by assumption) | exact held_alloc (by assumption)) (first | (go_simp; go_at_call 38; refine (HT0.out _ (below_trans bcum (And.left (by assumption)))).mono ?_; rintro e wt ⟨vt, rsq, rfl, ot, hbt⟩; obtain ⟨at1, mt1, ct1, rfl, HMt1⟩ := own_shape ot.outer) | (go_simp; go_at_call 12; refine (HE14.out _ _ (And.left (by assumption)) (by exact CubeIn.reads (by assumption))).mono ?_; rintro e w14 ⟨rfl, hb14⟩))
  rename Below w13.heap.size w13 w14 ∧ _ => hS
  obtain ⟨hw14, hcs⟩ := hS
  clear hcs
  replace e0_0 := below_cell hw14 e0_0
  replace e0_1 := below_cell hw14 e0_1
  replace bX0_0 := below_cell hw14 bX0_0
  replace bX0_1 := below_cell hw14 bX0_1
  replace oW := own_below oW hw14
  replace oX0 := oX0.below hw14
  replace oG := own_below oG hw14
  replace bcum := below_trans bcum hw14
  have s_w14 : w13.heap.size + 0 ≤ w14.heap.size := by have := hw14.size; simpa using this
  replace l_e0_0 := block_lt_of_cell e0_0
  replace l_e0_1 := block_lt_of_cell e0_1
  replace l_bX0_0 := block_lt_of_cell bX0_0
  replace l_bX0_1 := block_lt_of_cell bX0_1
  clear HE14 hw14
  go_wp2_with fail
  refine (markChoice_any st0 (.slice aX0 mX0 cX0) (w5.heap.size + 0) (w7.heap.size) _ x0 _ _ oX0 in_X0n (by omega) (by omega) (by omega)).mono ?_
  rintro e w15 ⟨rfl, om15, hch15⟩
  replace e0_0 := hch15.cell e0_0 (by omega)
  replace e0_1 := hch15.cell e0_1 (by omega)
  replace bX0_0 := hch15.cell bX0_0 (by omega)
  replace bX0_1 := hch15.cell bX0_1 (by omega)
  replace oW := own_chg' oW in_Wn hch15 (by omega)
  replace oG := own_chg' oG in_Gn hch15 (by omega)
  replace bcum := bcum.trans ((hch15.below (by omega)).mono (by omega))
  have s_w15 : w14.heap.size ≤ w15.heap.size := hch15.size
  replace l_e0_0 := block_lt_of_cell e0_0
  replace l_e0_1 := block_lt_of_cell e0_1
  replace l_bX0_0 := block_lt_of_cell bX0_0
  replace l_bX0_1 := block_lt_of_cell bX0_1
  clear om15 hch15
  have hdk : decide (((1 : Int) + (bulkN x0 : Int)) < 0) = false := decide_eq_false (by omega)
  go_wp2_with fail
  refine (eqInts_yes (.slice aG mG cG) (.slice aW mW cW) rr _ (ints_of_own oG) (ints_of_own oW)).mono ?_
  rintro e w16 ⟨rfl, hb16⟩
  replace e0_0 := below_cell hb16 e0_0
  replace e0_1 := below_cell hb16 e0_1
  replace bX0_0 := below_cell hb16 bX0_0
  replace bX0_1 := below_cell hb16 bX0_1
  replace oW := own_below oW hb16
  replace oG := own_below oG hb16
  replace bcum := below_trans bcum hb16
  have s_w16 : w15.heap.size + 0 ≤ w16.heap.size := by have := hb16.size; simpa using this
  replace l_e0_0 := block_lt_of_cell e0_0
  replace l_e0_1 := block_lt_of_cell e0_1
  replace l_bX0_0 := block_lt_of_cell bX0_0
  replace l_bX0_1 := block_lt_of_cell bX0_1
  clear hb16
  replace oG := own_lo2 (lo2 := w7.heap.size + 1) oG in_Gn
  go_wp2_with fail
  refine (markInts_chg (.slice aG mG cG) (w7.heap.size + 1) (w10.heap.size) rr _ _ oG in_Gn (by omega) (by omega)).mono ?_
  rintro e w17 ⟨rfl, om17, hch17⟩
  replace e0_0 := hch17.cell e0_0 (by omega)
  replace e0_1 := hch17.cell e0_1 (by omega)
  replace bX0_0 := hch17.cell bX0_0 (by omega)
  replace bX0_1 := hch17.cell bX0_1 (by omega)
  replace oW := own_chg' oW in_Wn hch17 (by omega)
  replace bcum := bcum.trans ((hch17.below (by omega)).mono (by omega))
  have s_w17 : w16.heap.size ≤ w17.heap.size := hch17.size
  replace l_e0_0 := block_lt_of_cell e0_0
  replace l_e0_1 := block_lt_of_cell e0_1
  replace l_bX0_0 := block_lt_of_cell bX0_0
  replace l_bX0_1 := block_lt_of_cell bX0_1
  clear oG hch17
  have hneq : ((1 + (rr.length : Int)) != 1 + (rr.length : Int)) = false := by simp
  have hdq : decide (1 + (rr.length : Int) < 0) = false := decide_eq_false (by omega)
  go_wp2_with fail
  refine (heldInts_ret (.slice aG mG cG) (run 1 rr.length) rr.length 1 _ (ints_of_own om17) (by omega) (by omega) rfl).mono ?_
  rintro e w18 ⟨rfl, hb18⟩
  replace e0_0 := below_cell hb18 e0_0
  replace e0_1 := below_cell hb18 e0_1
  replace bX0_0 := below_cell hb18 bX0_0
  replace bX0_1 := below_cell hb18 bX0_1
  replace oW := own_below oW hb18
  replace om17 := own_below om17 hb18
  replace bcum := below_trans bcum hb18
  have s_w18 : w17.heap.size + 0 ≤ w18.heap.size := by have := hb18.size; simpa using this
  replace l_e0_0 := block_lt_of_cell e0_0
  replace l_e0_1 := block_lt_of_cell e0_1
  replace l_bX0_0 := block_lt_of_cell bX0_0
  replace l_bX0_1 := block_lt_of_cell bX0_1
  clear hb18
  go_wp2_with fail
  refine (HT0.out _ bcum).mono ?_
  rintro e w19 ⟨vy0, rsy0, rfl, oy0, hb19⟩
  replace e0_0 := below_cell hb19 e0_0
  replace e0_1 := below_cell hb19 e0_1
  replace bX0_0 := below_cell hb19 bX0_0
  replace bX0_1 := below_cell hb19 bX0_1
  replace oW := own_below oW hb19
  replace om17 := own_below om17 hb19
  replace bcum := below_trans bcum hb19
  have s_w19 : w18.heap.size + 0 ≤ w19.heap.size := by have := hb19.size; simpa using this
  replace l_e0_0 := block_lt_of_cell e0_0
  replace l_e0_1 := block_lt_of_cell e0_1
  replace l_bX0_0 := block_lt_of_cell bX0_0
  replace l_bX0_1 := block_lt_of_cell bX0_1
  obtain ⟨ay0, my0, cy0, rfl, HMy0⟩ := own_shape oy0.outer
  have in_y0 := oy0.within
  have in_y0n := True.intro
  have oy0 : CubeIn w19 (w18.heap.size + 0) w19.heap.size (.slice ay0 my0 cy0) rsy0 (x0) := by simpa using oy0
  have oy0n := oy0
  clear in_y0
  clear oy0n
  clear hb19
  go_wp2_with fail
  refine (HI.out _ _ oy0.reads).mono ?_
  rintro e w21 ⟨vH, rfl, oH, hb21⟩
  replace e0_0 := below_cell hb21 e0_0
  replace e0_1 := below_cell hb21 e0_1
  replace bX0_0 := below_cell hb21 bX0_0
  replace bX0_1 := below_cell hb21 bX0_1
  replace oW := own_below oW hb21
  replace om17 := own_below om17 hb21
  replace oy0 := oy0.below hb21
  replace bcum := below_trans bcum hb21
  have s_w21 : w19.heap.size + 0 ≤ w21.heap.size := by have := hb21.size; simpa using this
  replace l_e0_0 := block_lt_of_cell e0_0
  replace l_e0_1 := block_lt_of_cell e0_1
  replace l_bX0_0 := block_lt_of_cell bX0_0
  replace l_bX0_1 := block_lt_of_cell bX0_1
  obtain ⟨aH, mH, cH, rfl, HMH⟩ := own_shape oH
  have in_H := own_within oH
  have in_Hn : IntsIn (w19.heap.size + 0) w21.heap.size (.slice aH mH cH) := by simpa using in_H
  have oHn := oH
  clear in_H
  clear oHn
  clear hb21
  go_wp2_with fail
  refine (eqInts_yes (.slice aH mH cH) (.slice aW mW cW) rr _ (ints_of_own oH) (ints_of_own oW)).mono ?_
  rintro e w23 ⟨rfl, hb23⟩
  replace e0_0 := below_cell hb23 e0_0
  replace e0_1 := below_cell hb23 e0_1
  replace bX0_0 := below_cell hb23 bX0_0
  replace bX0_1 := below_cell hb23 bX0_1
  replace oW := own_below oW hb23
  replace om17 := own_below om17 hb23
  replace oH := own_below oH hb23
  replace bcum := below_trans bcum hb23
  have s_w23 : w21.heap.size + 0 ≤ w23.heap.size := by have := hb23.size; simpa using this
  replace l_e0_0 := block_lt_of_cell e0_0
  replace l_e0_1 := block_lt_of_cell e0_1
  replace l_bX0_0 := block_lt_of_cell bX0_0
  replace l_bX0_1 := block_lt_of_cell bX0_1
  clear hb23
  go_wp2_with fail
  refine (heldInts_ret (.slice aG mG cG) (run 1 rr.length) rr.length 1 _ (ints_of_own om17) (by omega) (by omega) rfl).mono ?_
  rintro e w24 ⟨rfl, hb24⟩
  replace e0_0 := below_cell hb24 e0_0
  replace e0_1 := below_cell hb24 e0_1
  replace bX0_0 := below_cell hb24 bX0_0
  replace bX0_1 := below_cell hb24 bX0_1
  replace oW := own_below oW hb24
  replace om17 := own_below om17 hb24
  replace oH := own_below oH hb24
  replace bcum := below_trans bcum hb24
  have s_w24 : w23.heap.size + 0 ≤ w24.heap.size := by have := hb24.size; simpa using this
  replace l_e0_0 := block_lt_of_cell e0_0
  replace l_e0_1 := block_lt_of_cell e0_1
  replace l_bX0_0 := block_lt_of_cell bX0_0
  replace l_bX0_1 := block_lt_of_cell bX0_1
  clear hb24
  go_wp2
  go_ret
  exact ⟨rfl, bcum⟩

end Go.Proofs.Ytocdkeidjocmkaa
