/- FnExactReadChoice's walk. Written by lawwalk.py. -/
import Derived.Test.YtfdacodbiodiaaaDoorStep
import Derived.Test.YtfdacodbiodiaaaDoorChoMark
import Derived.Test.YtfdacodbiodiaaaDoorRdChoI
import Derived.Deep.RegionHeld3
namespace Go.Proofs.YtfdacodbiodiaaaDoor
set_option linter.unusedVariables false
set_option linter.unusedSimpArgs false
open Go.ChangeShapes Go.WideShapes Go.ChangeAt Go.RowKit

set_option maxRecDepth 100000 in
set_option maxHeartbeats 8000000 in
theorem walk_FnExactReadChoice (w : World) (z0 : ByteArray) (wz0 : z0.size ≤ maxLen) (E : Env w) :
    Calls Tryd.prog 4 #[.string z0] w fun e w' => e = .returned (.bool true) ∧ Below w.heap.size w w' := by
  by_cases hL0 : ¬ z0.size ≤ 1048576
  · have hd : (1048576 : Int) < (z0.size : Int) := by omega
    go_enter Tryd.func4, Tryd.ntmps4
    go_wp2
    go_ret
    exact ⟨rfl, by repeat (first | exact Below.refl _ _ | refine below_alloc ?_ _)⟩
  replace hL0 := Decidable.not_not.1 hL0
  have hd0 : ¬ (1048576 : Int) < (z0.size : Int) := by omega
  go_enter Tryd.func4, Tryd.ntmps4
  have HBK := rc_bulk z0
  have HS := Lib.hid (fun W (hW : Below w.heap.size w W)  => specReadCho_any z0 W hL0)
  have HI := Lib.hid (fun W (hW : Below w.heap.size w W)  => implReadCho_any z0 W (E.below hW) hL0)
  generalize (rcAns z0).2.1 = rr at HS HI HBK
  generalize (rcAns z0).1 = rst at HS HI HBK
  generalize (rcAns z0).2.2 = rcd at HS HI HBK
  have hncd : (rcd != rcd) = false := by simp
  clear E
  go_wp2_with fail
  refine (HS.out _ (Below.refl _ _)).mono ?_
  rintro e w1 ⟨vW, rsW, rfl, oW, hb1⟩
  have bcum := hb1
  have s_w1 : w.heap.size + 0 ≤ w1.heap.size := by have := hb1.size; simpa using this
  obtain ⟨aW, mW, cW, rfl, HMW⟩ := own_shape oW.outer
  have in_W := oW.within
  have in_Wn := True.intro
  have oW : CubeIn w1 (w.heap.size + 0) w1.heap.size (.slice aW mW cW) rsW (rr) := by simpa using oW
  have oWn := oW
  clear in_W
  clear oWn
  clear hb1
  have bx3 : Below w1.heap.size w1 (w1.alloc (.cells #[.int .i64 rst, .slice aW mW cW] 32)) := below_alloc (Below.refl _ _) _
  have bW_0 : (w1.alloc (.cells #[.int .i64 rst, .slice aW mW cW] 32)).cell? ⟨w1.heap.size, 0, none⟩ = some (.int .i64 rst) := by go_simp
  have bW_1 : (w1.alloc (.cells #[.int .i64 rst, .slice aW mW cW] 32)).cell? ⟨w1.heap.size, 1, none⟩ = some (.slice aW mW cW) := by go_simp
  go_wp2_with fail
  refine (HI.out _ (below_trans bcum bx3)).mono ?_
  rintro e w4 ⟨vG, rsG, rfl, oG, hb4⟩
  have B5 := below_trans bx3 hb4
  replace bW_0 := below_cell hb4 bW_0
  replace bW_1 := below_cell hb4 bW_1
  replace oW := oW.below B5
  replace bcum := below_trans bcum B5
  have s_w4 : w1.heap.size + 1 ≤ w4.heap.size := by have := hb4.size; simpa using this
  have l_bW_0 := block_lt_of_cell bW_0
  have l_bW_1 := block_lt_of_cell bW_1
  obtain ⟨aG, mG, cG, rfl, HMG⟩ := own_shape oG.outer
  have in_G := oG.within
  have in_Gn := True.intro
  have oG : CubeIn w4 (w1.heap.size + 1) w4.heap.size (.slice aG mG cG) rsG (rr) := by simpa using oG
  have oGn := oG
  clear in_G
  clear oGn
  clear hb4
  have bx7 : Below w4.heap.size w4 (w4.alloc (.cells #[.int .i64 rst, .slice aG mG cG] 32)) := below_alloc (Below.refl _ _) _
  have bG_0 : (w4.alloc (.cells #[.int .i64 rst, .slice aG mG cG] 32)).cell? ⟨w4.heap.size, 0, none⟩ = some (.int .i64 rst) := by go_simp
  have bG_1 : (w4.alloc (.cells #[.int .i64 rst, .slice aG mG cG] 32)).cell? ⟨w4.heap.size, 1, none⟩ = some (.slice aG mG cG) := by go_simp
  go_wp2_with fail
  refine (eqChoice_yes rst (.slice aG mG cG) (.slice aW mW cW) rr _ (oG.reads.kept bx7) (oW.reads.kept bx7)).mono ?_
  rintro e w8 ⟨rfl, hb8⟩
  have B9 := below_trans bx7 hb8
  replace bW_0 := below_cell B9 bW_0
  replace bW_1 := below_cell B9 bW_1
  replace bG_0 := below_cell hb8 bG_0
  replace bG_1 := below_cell hb8 bG_1
  replace oW := oW.below B9
  replace oG := oG.below B9
  replace bcum := below_trans bcum B9
  have s_w8 : w4.heap.size + 1 ≤ w8.heap.size := by have := hb8.size; simpa using this
  replace l_bW_0 := block_lt_of_cell bW_0
  replace l_bW_1 := block_lt_of_cell bW_1
  have l_bG_0 := block_lt_of_cell bG_0
  have l_bG_1 := block_lt_of_cell bG_1
  clear hb8
  go_wp2_with fail
  refine (markChoice_any rst (.slice aG mG cG) (w1.heap.size + 1) (w4.heap.size) _ rr _ _ oG in_Gn (by omega) (by omega) (by omega)).mono ?_
  rintro e w10 ⟨rfl, om10, hch10⟩
  replace bW_0 := hch10.cell bW_0 (by omega)
  replace bW_1 := hch10.cell bW_1 (by omega)
  replace bG_0 := hch10.cell bG_0 (by omega)
  replace bG_1 := hch10.cell bG_1 (by omega)
  replace oW := oW.chg in_Wn hch10 (by omega)
  replace bcum := bcum.trans ((hch10.below (by omega)).mono (by omega))
  have s_w10 : w8.heap.size ≤ w10.heap.size := hch10.size
  replace l_bW_0 := block_lt_of_cell bW_0
  replace l_bW_1 := block_lt_of_cell bW_1
  replace l_bG_0 := block_lt_of_cell bG_0
  replace l_bG_1 := block_lt_of_cell bG_1
  clear oG hch10
  have hneq : ((1 + (bulkN rr : Int)) != 1 + (bulkN rr : Int)) = false := by simp
  have hdq : decide (1 + (bulkN rr : Int) < 0) = false := decide_eq_false (by omega)
  go_wp2_with fail
  refine (heldChoice_any rst (.slice aG mG cG) (numCube 1 rr) rr 1 _ om10.reads (by omega) (by omega) rfl).mono ?_
  rintro e w11 ⟨rfl, hb11⟩
  replace bW_0 := below_cell hb11 bW_0
  replace bW_1 := below_cell hb11 bW_1
  replace bG_0 := below_cell hb11 bG_0
  replace bG_1 := below_cell hb11 bG_1
  replace oW := oW.below hb11
  replace om10 := om10.below hb11
  replace bcum := below_trans bcum hb11
  have s_w11 : w10.heap.size + 0 ≤ w11.heap.size := by have := hb11.size; simpa using this
  replace l_bW_0 := block_lt_of_cell bW_0
  replace l_bW_1 := block_lt_of_cell bW_1
  replace l_bG_0 := block_lt_of_cell bG_0
  replace l_bG_1 := block_lt_of_cell bG_1
  clear hb11
  go_wp2_with fail
  refine (HI.out _ bcum).mono ?_
  rintro e w12 ⟨vH, rsH, rfl, oH, hb12⟩
  replace bW_0 := below_cell hb12 bW_0
  replace bW_1 := below_cell hb12 bW_1
  replace bG_0 := below_cell hb12 bG_0
  replace bG_1 := below_cell hb12 bG_1
  replace oW := oW.below hb12
  replace om10 := om10.below hb12
  replace bcum := below_trans bcum hb12
  have s_w12 : w11.heap.size + 0 ≤ w12.heap.size := by have := hb12.size; simpa using this
  replace l_bW_0 := block_lt_of_cell bW_0
  replace l_bW_1 := block_lt_of_cell bW_1
  replace l_bG_0 := block_lt_of_cell bG_0
  replace l_bG_1 := block_lt_of_cell bG_1
  obtain ⟨aH, mH, cH, rfl, HMH⟩ := own_shape oH.outer
  have in_H := oH.within
  have in_Hn := True.intro
  have oH : CubeIn w12 (w11.heap.size + 0) w12.heap.size (.slice aH mH cH) rsH (rr) := by simpa using oH
  have oHn := oH
  clear in_H
  clear oHn
  clear hb12
  have bx14 : Below w12.heap.size w12 (w12.alloc (.cells #[.int .i64 rst, .slice aH mH cH] 32)) := below_alloc (Below.refl _ _) _
  have bH_0 : (w12.alloc (.cells #[.int .i64 rst, .slice aH mH cH] 32)).cell? ⟨w12.heap.size, 0, none⟩ = some (.int .i64 rst) := by go_simp
  have bH_1 : (w12.alloc (.cells #[.int .i64 rst, .slice aH mH cH] 32)).cell? ⟨w12.heap.size, 1, none⟩ = some (.slice aH mH cH) := by go_simp
  go_wp2_with fail
  refine (eqChoice_yes rst (.slice aH mH cH) (.slice aW mW cW) rr _ (oH.reads.kept bx14) (oW.reads.kept bx14)).mono ?_
  rintro e w15 ⟨rfl, hb15⟩
  have B16 := below_trans bx14 hb15
  replace bW_0 := below_cell B16 bW_0
  replace bW_1 := below_cell B16 bW_1
  replace bG_0 := below_cell B16 bG_0
  replace bG_1 := below_cell B16 bG_1
  replace bH_0 := below_cell hb15 bH_0
  replace bH_1 := below_cell hb15 bH_1
  replace oW := oW.below B16
  replace om10 := om10.below B16
  replace oH := oH.below B16
  replace bcum := below_trans bcum B16
  have s_w15 : w12.heap.size + 1 ≤ w15.heap.size := by have := hb15.size; simpa using this
  replace l_bW_0 := block_lt_of_cell bW_0
  replace l_bW_1 := block_lt_of_cell bW_1
  replace l_bG_0 := block_lt_of_cell bG_0
  replace l_bG_1 := block_lt_of_cell bG_1
  have l_bH_0 := block_lt_of_cell bH_0
  have l_bH_1 := block_lt_of_cell bH_1
  clear hb15
  go_wp2_with fail
  refine (heldChoice_any rst (.slice aG mG cG) (numCube 1 rr) rr 1 _ om10.reads (by omega) (by omega) rfl).mono ?_
  rintro e w17 ⟨rfl, hb17⟩
  replace bW_0 := below_cell hb17 bW_0
  replace bW_1 := below_cell hb17 bW_1
  replace bG_0 := below_cell hb17 bG_0
  replace bG_1 := below_cell hb17 bG_1
  replace bH_0 := below_cell hb17 bH_0
  replace bH_1 := below_cell hb17 bH_1
  replace oW := oW.below hb17
  replace om10 := om10.below hb17
  replace oH := oH.below hb17
  replace bcum := below_trans bcum hb17
  have s_w17 : w15.heap.size + 0 ≤ w17.heap.size := by have := hb17.size; simpa using this
  replace l_bW_0 := block_lt_of_cell bW_0
  replace l_bW_1 := block_lt_of_cell bW_1
  replace l_bG_0 := block_lt_of_cell bG_0
  replace l_bG_1 := block_lt_of_cell bG_1
  replace l_bH_0 := block_lt_of_cell bH_0
  replace l_bH_1 := block_lt_of_cell bH_1
  clear hb17
  go_wp2
  go_ret
  exact ⟨rfl, bcum⟩

end Go.Proofs.YtfdacodbiodiaaaDoor
