/- FnExactProductOf's walk. Written by lawwalk.py. -/
import Derived.Test.YtkmaglifohffnaaAuto
import Derived.Test.YtkmaglifohffnaaProduct
import Derived.Deep.RegionHeld3
import Derived.Deep.DeepCutAuto
namespace Go.Proofs.Ytkmaglifohffnaa
set_option linter.unusedVariables false
set_option linter.unusedSimpArgs false
open Go.ChangeShapes Go.WideShapes Go.ChangeAt Go.RowKit

set_option maxRecDepth 100000 in
set_option maxHeartbeats 20000000 in
theorem walk_FnExactProductOf (w : World) (st0 : Int) (v0 : Value) (x0 : List (List Int)) (h0 : Rows2 w v0 x0) (st1 : Int) (v1 : Value) (x1 : List (List Int)) (h1 : Rows2 w v1 x1) :
    Calls Try.prog 3 #[.agg #[.int .i64 st0, v0], .agg #[.int .i64 st1, v1]] w fun e w' => e = .returned (.bool true) ∧ Below w.heap.size w w' := by
  obtain ⟨ao0, m0, c0, rfl, HM0⟩ := h0.shape
  obtain ⟨ao1, m1, c1, rfl, HM1⟩ := h1.shape
  have HSZ0 := Lib.hid (fun W l (hW : Below w.heap.size w W) (g0 : 0 ≤ l) (g1 : l ≤ 1048576) => szAuto_any st0 _ x0 l W (h0.kept hW) g0 g1)
  have HSZ1 := Lib.hid (fun W l (hW : Below w.heap.size w W) (g0 : 0 ≤ l) (g1 : l ≤ 1048576) => szAuto_any st1 _ x1 l W (h1.kept hW) g0 g1)
  go_enter Try.func3, Try.ntmps3
  have bx0 : Below w.heap.size w ((w.alloc (.cells #[.int .i64 st0, .slice ao0 m0 c0] 24)).alloc (.cells #[.int .i64 st1, .slice ao1 m1 c1] 24)) := (below_alloc (below_alloc (Below.refl _ _) _) _)
  have e0_0 : ((w.alloc (.cells #[.int .i64 st0, .slice ao0 m0 c0] 24)).alloc (.cells #[.int .i64 st1, .slice ao1 m1 c1] 24)).cell? ⟨w.heap.size, 0, none⟩ = some (.int .i64 st0) := by go_simp
  have e0_1 : ((w.alloc (.cells #[.int .i64 st0, .slice ao0 m0 c0] 24)).alloc (.cells #[.int .i64 st1, .slice ao1 m1 c1] 24)).cell? ⟨w.heap.size, 1, none⟩ = some (.slice ao0 m0 c0) := by go_simp
  have e1_0 : ((w.alloc (.cells #[.int .i64 st0, .slice ao0 m0 c0] 24)).alloc (.cells #[.int .i64 st1, .slice ao1 m1 c1] 24)).cell? ⟨w.heap.size + 1, 0, none⟩ = some (.int .i64 st1) := by go_simp
  have e1_1 : ((w.alloc (.cells #[.int .i64 st0, .slice ao0 m0 c0] 24)).alloc (.cells #[.int .i64 st1, .slice ao1 m1 c1] 24)).cell? ⟨w.heap.size + 1, 1, none⟩ = some (.slice ao1 m1 c1) := by go_simp
  go_wp2_with fail
  refine (HSZ0.out _ _ (bx0) (by omega) (by omega)).mono ?_
  rintro e w1 ⟨hb1, r0, rfl, hr0⟩
  have B2 := below_trans bx0 hb1
  replace e0_0 := below_cell hb1 e0_0
  replace e0_1 := below_cell hb1 e0_1
  replace e1_0 := below_cell hb1 e1_0
  replace e1_1 := below_cell hb1 e1_1
  have bcum := B2
  have s_w1 : w.heap.size + 2 ≤ w1.heap.size := by have := hb1.size; simpa using this
  have l_e0_0 := block_lt_of_cell e0_0
  have l_e0_1 := block_lt_of_cell e0_1
  have l_e1_0 := block_lt_of_cell e1_0
  have l_e1_1 := block_lt_of_cell e1_1
  rcases hr0 with rfl | ⟨hr00, hr0⟩
  · clear h0 h1
    go_wp2
    go_ret
    exact ⟨rfl, bcum⟩
  have hr01 : r0 ≤ 1048576 := by omega
  have hk0 : x0.length + bulk2 x0 ≤ 1048576 := by omega
  clear hr0 hb1
  go_wp2_with fail
  refine (HSZ1.out _ _ bcum (by omega) (by omega)).mono ?_
  rintro e w3 ⟨hb3, r1, rfl, hr1⟩
  replace e0_0 := below_cell hb3 e0_0
  replace e0_1 := below_cell hb3 e0_1
  replace e1_0 := below_cell hb3 e1_0
  replace e1_1 := below_cell hb3 e1_1
  replace bcum := below_trans bcum hb3
  have s_w3 : w1.heap.size + 0 ≤ w3.heap.size := by have := hb3.size; simpa using this
  replace l_e0_0 := block_lt_of_cell e0_0
  replace l_e0_1 := block_lt_of_cell e0_1
  replace l_e1_0 := block_lt_of_cell e1_0
  replace l_e1_1 := block_lt_of_cell e1_1
  rcases hr1 with rfl | ⟨hr10, hr1⟩
  · clear h0 h1
    go_wp2
    go_ret
    exact ⟨rfl, bcum⟩
  have hr11 : r1 ≤ 1048576 := by omega
  have hk1 : x1.length + bulk2 x1 ≤ 1048576 := by omega
  clear hr1 hb3
  have HT0 := Lib.hid (fun W (hW : Below w.heap.size w W) => toAuto_any st0 _ x0 W (h0.kept hW) hk0)
  have HT1 := Lib.hid (fun W (hW : Below w.heap.size w W) => toAuto_any st1 _ x1 W (h1.kept hW) hk1)
  have HT := Lib.hid (fun W st v xss (h : ArgRows w v xss) (hW : Below w.heap.size w W) => toAuto_any st v xss W (h.1.kept hW) h.2)
  have HA0 := Lib.hid (show ArgRows w (.slice ao0 m0 c0) x0 from ⟨h0, hk0⟩)
  have HA1 := Lib.hid (show ArgRows w (.slice ao1 m1 c1) x1 from ⟨h1, hk1⟩)
  have HBK := prodRows_bulk st0 st1 x0 x1
  have HS := Lib.hid (fun W u0 (q0 : Rows2 W u0 x0) u1 (q1 : Rows2 W u1 x1) => specProduct_any st0 st1 u0 u1 x0 x1 W q0 q1)
  have HI := Lib.hid (fun W u0 (q0 : Rows2 W u0 x0) u1 (q1 : Rows2 W u1 x1) => implProduct_any st0 st1 u0 u1 x0 x1 W q0 q1)
  generalize prodRows st0 st1 x0 x1 = rr at HS HI HBK
  generalize prodSt st0 st1 x0 x1 = rst at HS HI HBK
  generalize prodCd st0 st1 x0 x1 = rcd at HS HI HBK
  have hncd : (rcd != rcd) = false := by simp
  clear h0 h1
  have HX4 := Lib.hid (fun W u0 (q0 : Rows2 W u0 x0) u1 (q1 : Rows2 W u1 x1) => HS.out W u0 q0 u1 q1)
  go_wp2
  go_cut [6, 7] (fun sa sb wx => ∃ (gb : Nat) (av : Option Addr) (mv cv : Nat) (rsv : List Value), sa = .pointer (some ⟨gb, 0, none⟩) ∧ sb = .int .i64 rcd ∧ wx.cell? ⟨gb, 0, none⟩ = some (.int .i64 rst) ∧ wx.cell? ⟨gb, 1, none⟩ = some (.slice av mv cv) ∧ OwnRows wx w3.heap.size (.slice av mv cv) rsv rr ∧ Below w3.heap.size w3 wx)
  case first =>
    go_region_held3 (fun w' => Below w3.heap.size w3 w' ∧ ∀ b o, b < w3.heap.size → w'.cell? ⟨b, o, none⟩ = w3.cell? ⟨b, o, none⟩) (first | exact held_start | assumption | exact held_nx (by assumption) (by assumption) | exact held_alloc (by assumption) | exact held_set (held_set (by assumption) (by first | omega | (simp; done) | (simp; omega))) (by first | omega | (simp; done) | (simp; omega)) | exact held_set (by assumption) (by first | omega | (simp; done) | (simp; omega)) | exact held_with (by repeat (first | exact Below.refl _ _ | refine Below.drew ?_ | refine below_alloc ?_ _ | refine below_trans ?_ (by assumption)))) (first | (go_simp; go_at_call 17; refine (HT.out _ _ _ _ (by exact HA0.out) (below_trans bcum (And.left (by assumption)))).mono ?_; rintro e wt0 ⟨vt0, rst0, rfl, ot0, hbt0⟩; obtain ⟨at0, mt0, ct0, rfl, HMt0⟩ := own_shape ot0.outer; obtain ⟨hct0, hft0⟩ := bcell hbt0; have hzt0 := hbt0.size; (try simp at hzt0); (try have : w3.heap.size < wt0.heap.size := by omega); (try have : wt1.heap.size < wt0.heap.size := by omega); (try have : w3.heap.size < wt1.heap.size := by omega); (try have : wt0.heap.size < wt1.heap.size := by omega); (try have : w3.heap.size < w4.heap.size := by omega); (try have : wt0.heap.size < w4.heap.size := by omega); (try have : wt1.heap.size < w4.heap.size := by omega)) | (go_simp; go_at_call 17; refine (HT.out _ _ _ _ (by exact HA1.out) (below_trans bcum (And.left (by assumption)))).mono ?_; rintro e wt1 ⟨vt1, rst1, rfl, ot1, hbt1⟩; obtain ⟨at1, mt1, ct1, rfl, HMt1⟩ := own_shape ot1.outer; obtain ⟨hct1, hft1⟩ := bcell hbt1; have hzt1 := hbt1.size; (try simp at hzt1); (try have : w3.heap.size < wt0.heap.size := by omega); (try have : wt1.heap.size < wt0.heap.size := by omega); (try have : w3.heap.size < wt1.heap.size := by omega); (try have : wt0.heap.size < wt1.heap.size := by omega); (try have : w3.heap.size < w4.heap.size := by omega); (try have : wt0.heap.size < w4.heap.size := by omega); (try have : wt1.heap.size < w4.heap.size := by omega)) | (go_simp; go_at_call 16; refine (HX4.out _ _ (by first | exact OwnRows.reads (by assumption) | exact (OwnRows.reads (by assumption)).kept (by repeat (first | exact Below.refl _ _ | refine Below.drew ?_ | refine below_alloc ?_ _ | refine below_trans ?_ (by assumption)))) _ (by first | exact OwnRows.reads (by assumption) | exact (OwnRows.reads (by assumption)).kept (by repeat (first | exact Below.refl _ _ | refine Below.drew ?_ | refine below_alloc ?_ _ | refine below_trans ?_ (by assumption))))).mono ?_; rintro e w4 ⟨vW, rsW, rfl, oW, hb4⟩; obtain ⟨aW, mW, cW, rfl, HMW⟩ := own_shape oW.outer; obtain ⟨hct, hft⟩ := bcell hb4; have hzt := hb4.size; (try simp at hzt); (try have : w3.heap.size < wt0.heap.size := by omega); (try have : wt1.heap.size < wt0.heap.size := by omega); (try have : w3.heap.size < wt1.heap.size := by omega); (try have : wt0.heap.size < wt1.heap.size := by omega); (try have : w3.heap.size < w4.heap.size := by omega); (try have : wt0.heap.size < w4.heap.size := by omega); (try have : wt1.heap.size < w4.heap.size := by omega)))
    all_goals
      rename Below w3.heap.size w3 _ ∧ _ => hS
      go_wp2_with fail
      go_meet
      refine ⟨_, aW, mW, cW, rsW, rfl, rfl, ?_, ?_, ?_, hS.1⟩
      · go_simp
      · go_simp
      · first | exact (oW.alloc _).mono (by first | omega | (simp; done) | (simp; omega)) | exact ((oW.set_below (by first | omega | (simp; done) | (simp; omega)) _ _).set_below (by first | omega | (simp; done) | (simp; omega)) _ _).mono (by first | omega | (simp; done) | (simp; omega))
  case rest =>
    obtain ⟨gW, aW, mW, cW, rsW, rfl, rfl, bW_0, bW_1, oW, hw4⟩ := hcut
    clear HX4
    obtain ⟨w4, hwc⟩ : ∃ w4, w4 = wc := ⟨_, rfl⟩
    subst hwc
    replace e0_0 := below_cell hw4 e0_0
    replace e0_1 := below_cell hw4 e0_1
    replace e1_0 := below_cell hw4 e1_0
    replace e1_1 := below_cell hw4 e1_1
    replace bcum := below_trans bcum hw4
    have s_w4 : w3.heap.size + 0 ≤ w4.heap.size := by have := hw4.size; simpa using this
    replace l_e0_0 := block_lt_of_cell e0_0
    replace l_e0_1 := block_lt_of_cell e0_1
    replace l_e1_0 := block_lt_of_cell e1_0
    replace l_e1_1 := block_lt_of_cell e1_1
    have l_bW_0 := block_lt_of_cell bW_0
    have l_bW_1 := block_lt_of_cell bW_1
    have lg_W := l_bW_0
    have in_W := oW.within
    go_wp2_with fail
    refine (HT0.out _ bcum).mono ?_
    rintro e w5 ⟨vX0, rsX0, rfl, oX0, hb5⟩
    replace e0_0 := below_cell hb5 e0_0
    replace e0_1 := below_cell hb5 e0_1
    replace e1_0 := below_cell hb5 e1_0
    replace e1_1 := below_cell hb5 e1_1
    replace bW_0 := below_cell hb5 bW_0
    replace bW_1 := below_cell hb5 bW_1
    replace oW := oW.below hb5
    replace bcum := below_trans bcum hb5
    have s_w5 : w4.heap.size + 0 ≤ w5.heap.size := by have := hb5.size; simpa using this
    replace l_e0_0 := block_lt_of_cell e0_0
    replace l_e0_1 := block_lt_of_cell e0_1
    replace l_e1_0 := block_lt_of_cell e1_0
    replace l_e1_1 := block_lt_of_cell e1_1
    replace l_bW_0 := block_lt_of_cell bW_0
    replace l_bW_1 := block_lt_of_cell bW_1
    obtain ⟨aX0, mX0, cX0, rfl, HMX0⟩ := own_shape oX0.outer
    have in_X0 := oX0.within
    have in_X0n : RowsIn (w4.heap.size + 0) w5.heap.size (.slice aX0 mX0 cX0) rsX0 (x0).length := by simpa using in_X0
    have oX0n := oX0
    clear in_X0
    clear oX0n
    clear hb5
    have bx7 : Below w5.heap.size w5 (w5.alloc (.cells #[.int .i64 st0, .slice aX0 mX0 cX0] 26)) := below_alloc (Below.refl _ _) _
    have bX0_0 : (w5.alloc (.cells #[.int .i64 st0, .slice aX0 mX0 cX0] 26)).cell? ⟨w5.heap.size, 0, none⟩ = some (.int .i64 st0) := by go_simp
    have bX0_1 : (w5.alloc (.cells #[.int .i64 st0, .slice aX0 mX0 cX0] 26)).cell? ⟨w5.heap.size, 1, none⟩ = some (.slice aX0 mX0 cX0) := by go_simp
    go_wp2_with fail
    refine (HT1.out _ (below_trans bcum bx7)).mono ?_
    rintro e w8 ⟨vX1, rsX1, rfl, oX1, hb8⟩
    have B9 := below_trans bx7 hb8
    replace e0_0 := below_cell B9 e0_0
    replace e0_1 := below_cell B9 e0_1
    replace e1_0 := below_cell B9 e1_0
    replace e1_1 := below_cell B9 e1_1
    replace bW_0 := below_cell B9 bW_0
    replace bW_1 := below_cell B9 bW_1
    replace bX0_0 := below_cell hb8 bX0_0
    replace bX0_1 := below_cell hb8 bX0_1
    replace oW := oW.below B9
    replace oX0 := oX0.below B9
    replace bcum := below_trans bcum B9
    have s_w8 : w5.heap.size + 1 ≤ w8.heap.size := by have := hb8.size; simpa using this
    replace l_e0_0 := block_lt_of_cell e0_0
    replace l_e0_1 := block_lt_of_cell e0_1
    replace l_e1_0 := block_lt_of_cell e1_0
    replace l_e1_1 := block_lt_of_cell e1_1
    replace l_bW_0 := block_lt_of_cell bW_0
    replace l_bW_1 := block_lt_of_cell bW_1
    have l_bX0_0 := block_lt_of_cell bX0_0
    have l_bX0_1 := block_lt_of_cell bX0_1
    obtain ⟨aX1, mX1, cX1, rfl, HMX1⟩ := own_shape oX1.outer
    have in_X1 := oX1.within
    have in_X1n : RowsIn (w5.heap.size + 1) w8.heap.size (.slice aX1 mX1 cX1) rsX1 (x1).length := by simpa using in_X1
    have oX1n := oX1
    clear in_X1
    clear oX1n
    clear hb8
    have bx11 : Below w8.heap.size w8 (w8.alloc (.cells #[.int .i64 st1, .slice aX1 mX1 cX1] 26)) := below_alloc (Below.refl _ _) _
    have bX1_0 : (w8.alloc (.cells #[.int .i64 st1, .slice aX1 mX1 cX1] 26)).cell? ⟨w8.heap.size, 0, none⟩ = some (.int .i64 st1) := by go_simp
    have bX1_1 : (w8.alloc (.cells #[.int .i64 st1, .slice aX1 mX1 cX1] 26)).cell? ⟨w8.heap.size, 1, none⟩ = some (.slice aX1 mX1 cX1) := by go_simp
    go_wp2_with fail
    refine (HI.out _ _ (oX0.reads.kept bx11) _ (oX1.reads.kept bx11)).mono ?_
    rintro e w12 ⟨vG, rsG, rfl, oG, hb12⟩
    have B13 := below_trans bx11 hb12
    replace e0_0 := below_cell B13 e0_0
    replace e0_1 := below_cell B13 e0_1
    replace e1_0 := below_cell B13 e1_0
    replace e1_1 := below_cell B13 e1_1
    replace bW_0 := below_cell B13 bW_0
    replace bW_1 := below_cell B13 bW_1
    replace bX0_0 := below_cell B13 bX0_0
    replace bX0_1 := below_cell B13 bX0_1
    replace bX1_0 := below_cell hb12 bX1_0
    replace bX1_1 := below_cell hb12 bX1_1
    replace oW := oW.below B13
    replace oX0 := oX0.below B13
    replace oX1 := oX1.below B13
    replace bcum := below_trans bcum B13
    have s_w12 : w8.heap.size + 1 ≤ w12.heap.size := by have := hb12.size; simpa using this
    replace l_e0_0 := block_lt_of_cell e0_0
    replace l_e0_1 := block_lt_of_cell e0_1
    replace l_e1_0 := block_lt_of_cell e1_0
    replace l_e1_1 := block_lt_of_cell e1_1
    replace l_bW_0 := block_lt_of_cell bW_0
    replace l_bW_1 := block_lt_of_cell bW_1
    replace l_bX0_0 := block_lt_of_cell bX0_0
    replace l_bX0_1 := block_lt_of_cell bX0_1
    have l_bX1_0 := block_lt_of_cell bX1_0
    have l_bX1_1 := block_lt_of_cell bX1_1
    obtain ⟨aG, mG, cG, rfl, HMG⟩ := own_shape oG.outer
    have in_G := oG.within
    have in_Gn : RowsIn (w8.heap.size + 1) w12.heap.size (.slice aG mG cG) rsG (rr).length := by simpa using in_G
    have oGn := oG
    clear in_G
    clear oGn
    clear hb12
    have bx15 : Below w12.heap.size w12 (w12.alloc (.cells #[.int .i64 rst, .slice aG mG cG] 26)) := below_alloc (Below.refl _ _) _
    have bG_0 : (w12.alloc (.cells #[.int .i64 rst, .slice aG mG cG] 26)).cell? ⟨w12.heap.size, 0, none⟩ = some (.int .i64 rst) := by go_simp
    have bG_1 : (w12.alloc (.cells #[.int .i64 rst, .slice aG mG cG] 26)).cell? ⟨w12.heap.size, 1, none⟩ = some (.slice aG mG cG) := by go_simp
    go_wp2_with fail
    refine (eqAuto_yes rst (.slice aG mG cG) (.slice aW mW cW) rr _ (oG.reads.kept bx15) (oW.reads.kept bx15)).mono ?_
    rintro e w16 ⟨rfl, hb16⟩
    have B17 := below_trans bx15 hb16
    replace e0_0 := below_cell B17 e0_0
    replace e0_1 := below_cell B17 e0_1
    replace e1_0 := below_cell B17 e1_0
    replace e1_1 := below_cell B17 e1_1
    replace bW_0 := below_cell B17 bW_0
    replace bW_1 := below_cell B17 bW_1
    replace bX0_0 := below_cell B17 bX0_0
    replace bX0_1 := below_cell B17 bX0_1
    replace bX1_0 := below_cell B17 bX1_0
    replace bX1_1 := below_cell B17 bX1_1
    replace bG_0 := below_cell hb16 bG_0
    replace bG_1 := below_cell hb16 bG_1
    replace oW := oW.below B17
    replace oX0 := oX0.below B17
    replace oX1 := oX1.below B17
    replace oG := oG.below B17
    replace bcum := below_trans bcum B17
    have s_w16 : w12.heap.size + 1 ≤ w16.heap.size := by have := hb16.size; simpa using this
    replace l_e0_0 := block_lt_of_cell e0_0
    replace l_e0_1 := block_lt_of_cell e0_1
    replace l_e1_0 := block_lt_of_cell e1_0
    replace l_e1_1 := block_lt_of_cell e1_1
    replace l_bW_0 := block_lt_of_cell bW_0
    replace l_bW_1 := block_lt_of_cell bW_1
    replace l_bX0_0 := block_lt_of_cell bX0_0
    replace l_bX0_1 := block_lt_of_cell bX0_1
    replace l_bX1_0 := block_lt_of_cell bX1_0
    replace l_bX1_1 := block_lt_of_cell bX1_1
    have l_bG_0 := block_lt_of_cell bG_0
    have l_bG_1 := block_lt_of_cell bG_1
    clear hb16
    have HE18 := Lib.hid (fun W u (hW : Below w16.heap.size w16 W) (q : Rows2 W u x0) => eqAuto_yes st0 (.slice aX0 mX0 cX0) u x0 W (oX0.reads.kept hW) q)
    go_wp2
    go_region_held3 (fun w' => Below w16.heap.size w16 w' ∧ ∀ b o, b < w16.heap.size → w'.cell? ⟨b, o, none⟩ = w16.cell? ⟨b, o, none⟩) (first | exact held_start | assumption | exact held_nx (by assumption) (by assumption) | exact held_alloc (by assumption)) (first | (go_simp; go_at_call 17; refine (HT0.out _ (below_trans bcum (And.left (by assumption)))).mono ?_; rintro e wt ⟨vt, rsq, rfl, ot, hbt⟩; obtain ⟨at1, mt1, ct1, rfl, HMt1⟩ := own_shape ot.outer) | (go_simp; go_at_call 19; refine (HE18.out _ _ (And.left (by assumption)) (by exact OwnRows.reads (by assumption))).mono ?_; rintro e w18 ⟨rfl, hb18⟩))
    rename Below w16.heap.size w16 w18 ∧ _ => hS
    obtain ⟨hw18, hcs⟩ := hS
    clear hcs
    replace e0_0 := below_cell hw18 e0_0
    replace e0_1 := below_cell hw18 e0_1
    replace e1_0 := below_cell hw18 e1_0
    replace e1_1 := below_cell hw18 e1_1
    replace bW_0 := below_cell hw18 bW_0
    replace bW_1 := below_cell hw18 bW_1
    replace bX0_0 := below_cell hw18 bX0_0
    replace bX0_1 := below_cell hw18 bX0_1
    replace bX1_0 := below_cell hw18 bX1_0
    replace bX1_1 := below_cell hw18 bX1_1
    replace bG_0 := below_cell hw18 bG_0
    replace bG_1 := below_cell hw18 bG_1
    replace oW := oW.below hw18
    replace oX0 := oX0.below hw18
    replace oX1 := oX1.below hw18
    replace oG := oG.below hw18
    replace bcum := below_trans bcum hw18
    have s_w18 : w16.heap.size + 0 ≤ w18.heap.size := by have := hw18.size; simpa using this
    replace l_e0_0 := block_lt_of_cell e0_0
    replace l_e0_1 := block_lt_of_cell e0_1
    replace l_e1_0 := block_lt_of_cell e1_0
    replace l_e1_1 := block_lt_of_cell e1_1
    replace l_bW_0 := block_lt_of_cell bW_0
    replace l_bW_1 := block_lt_of_cell bW_1
    replace l_bX0_0 := block_lt_of_cell bX0_0
    replace l_bX0_1 := block_lt_of_cell bX0_1
    replace l_bX1_0 := block_lt_of_cell bX1_0
    replace l_bX1_1 := block_lt_of_cell bX1_1
    replace l_bG_0 := block_lt_of_cell bG_0
    replace l_bG_1 := block_lt_of_cell bG_1
    clear HE18 hw18
    have HE19 := Lib.hid (fun W u (hW : Below w18.heap.size w18 W) (q : Rows2 W u x1) => eqAuto_yes st1 (.slice aX1 mX1 cX1) u x1 W (oX1.reads.kept hW) q)
    go_wp2
    go_region_held3 (fun w' => Below w18.heap.size w18 w' ∧ ∀ b o, b < w18.heap.size → w'.cell? ⟨b, o, none⟩ = w18.cell? ⟨b, o, none⟩) (first | exact held_start | assumption | exact held_nx (by assumption) (by assumption) | exact held_alloc (by assumption)) (first | (go_simp; go_at_call 17; refine (HT1.out _ (below_trans bcum (And.left (by assumption)))).mono ?_; rintro e wt ⟨vt, rsq, rfl, ot, hbt⟩; obtain ⟨at1, mt1, ct1, rfl, HMt1⟩ := own_shape ot.outer) | (go_simp; go_at_call 19; refine (HE19.out _ _ (And.left (by assumption)) (by exact OwnRows.reads (by assumption))).mono ?_; rintro e w19 ⟨rfl, hb19⟩))
    rename Below w18.heap.size w18 w19 ∧ _ => hS
    obtain ⟨hw19, hcs⟩ := hS
    clear hcs
    replace e0_0 := below_cell hw19 e0_0
    replace e0_1 := below_cell hw19 e0_1
    replace e1_0 := below_cell hw19 e1_0
    replace e1_1 := below_cell hw19 e1_1
    replace bW_0 := below_cell hw19 bW_0
    replace bW_1 := below_cell hw19 bW_1
    replace bX0_0 := below_cell hw19 bX0_0
    replace bX0_1 := below_cell hw19 bX0_1
    replace bX1_0 := below_cell hw19 bX1_0
    replace bX1_1 := below_cell hw19 bX1_1
    replace bG_0 := below_cell hw19 bG_0
    replace bG_1 := below_cell hw19 bG_1
    replace oW := oW.below hw19
    replace oX0 := oX0.below hw19
    replace oX1 := oX1.below hw19
    replace oG := oG.below hw19
    replace bcum := below_trans bcum hw19
    have s_w19 : w18.heap.size + 0 ≤ w19.heap.size := by have := hw19.size; simpa using this
    replace l_e0_0 := block_lt_of_cell e0_0
    replace l_e0_1 := block_lt_of_cell e0_1
    replace l_e1_0 := block_lt_of_cell e1_0
    replace l_e1_1 := block_lt_of_cell e1_1
    replace l_bW_0 := block_lt_of_cell bW_0
    replace l_bW_1 := block_lt_of_cell bW_1
    replace l_bX0_0 := block_lt_of_cell bX0_0
    replace l_bX0_1 := block_lt_of_cell bX0_1
    replace l_bX1_0 := block_lt_of_cell bX1_0
    replace l_bX1_1 := block_lt_of_cell bX1_1
    replace l_bG_0 := block_lt_of_cell bG_0
    replace l_bG_1 := block_lt_of_cell bG_1
    clear HE19 hw19
    replace oX0 := oX0.low2 (lo2 := w4.heap.size + 0) in_X0n
    go_wp2_with fail
    refine (markAuto_any st0 (.slice aX0 mX0 cX0) (w4.heap.size + 0) (w5.heap.size) _ x0 _ _ oX0 in_X0n (by omega) (by omega) (by omega)).mono ?_
    rintro e w20 ⟨rfl, om20, hch20⟩
    replace e0_0 := hch20.cell e0_0 (by omega)
    replace e0_1 := hch20.cell e0_1 (by omega)
    replace e1_0 := hch20.cell e1_0 (by omega)
    replace e1_1 := hch20.cell e1_1 (by omega)
    replace bW_0 := hch20.cell bW_0 (by omega)
    replace bW_1 := hch20.cell bW_1 (by omega)
    replace bX0_0 := hch20.cell bX0_0 (by omega)
    replace bX0_1 := hch20.cell bX0_1 (by omega)
    replace bX1_0 := hch20.cell bX1_0 (by omega)
    replace bX1_1 := hch20.cell bX1_1 (by omega)
    replace bG_0 := hch20.cell bG_0 (by omega)
    replace bG_1 := hch20.cell bG_1 (by omega)
    replace oW := oW.chg in_W hch20 (by omega)
    replace oX1 := oX1.chg in_X1n hch20 (by omega)
    replace oG := oG.chg in_Gn hch20 (by omega)
    replace bcum := bcum.trans ((hch20.below (by omega)).mono (by omega))
    have s_w20 : w19.heap.size ≤ w20.heap.size := hch20.size
    replace l_e0_0 := block_lt_of_cell e0_0
    replace l_e0_1 := block_lt_of_cell e0_1
    replace l_e1_0 := block_lt_of_cell e1_0
    replace l_e1_1 := block_lt_of_cell e1_1
    replace l_bW_0 := block_lt_of_cell bW_0
    replace l_bW_1 := block_lt_of_cell bW_1
    replace l_bX0_0 := block_lt_of_cell bX0_0
    replace l_bX0_1 := block_lt_of_cell bX0_1
    replace l_bX1_0 := block_lt_of_cell bX1_0
    replace l_bX1_1 := block_lt_of_cell bX1_1
    replace l_bG_0 := block_lt_of_cell bG_0
    replace l_bG_1 := block_lt_of_cell bG_1
    clear om20 hch20
    replace oX1 := oX1.low2 (lo2 := w5.heap.size + 1) in_X1n
    go_wp2_with fail
    refine (markAuto_any st1 (.slice aX1 mX1 cX1) (w5.heap.size + 1) (w8.heap.size) _ x1 _ _ oX1 in_X1n (by omega) (by omega) (by omega)).mono ?_
    rintro e w21 ⟨rfl, om21, hch21⟩
    replace e0_0 := hch21.cell e0_0 (by omega)
    replace e0_1 := hch21.cell e0_1 (by omega)
    replace e1_0 := hch21.cell e1_0 (by omega)
    replace e1_1 := hch21.cell e1_1 (by omega)
    replace bW_0 := hch21.cell bW_0 (by omega)
    replace bW_1 := hch21.cell bW_1 (by omega)
    replace bX0_0 := hch21.cell bX0_0 (by omega)
    replace bX0_1 := hch21.cell bX0_1 (by omega)
    replace bX1_0 := hch21.cell bX1_0 (by omega)
    replace bX1_1 := hch21.cell bX1_1 (by omega)
    replace bG_0 := hch21.cell bG_0 (by omega)
    replace bG_1 := hch21.cell bG_1 (by omega)
    replace oW := oW.chg in_W hch21 (by omega)
    replace oG := oG.chg in_Gn hch21 (by omega)
    replace bcum := bcum.trans ((hch21.below (by omega)).mono (by omega))
    have s_w21 : w20.heap.size ≤ w21.heap.size := hch21.size
    replace l_e0_0 := block_lt_of_cell e0_0
    replace l_e0_1 := block_lt_of_cell e0_1
    replace l_e1_0 := block_lt_of_cell e1_0
    replace l_e1_1 := block_lt_of_cell e1_1
    replace l_bW_0 := block_lt_of_cell bW_0
    replace l_bW_1 := block_lt_of_cell bW_1
    replace l_bX0_0 := block_lt_of_cell bX0_0
    replace l_bX0_1 := block_lt_of_cell bX0_1
    replace l_bX1_0 := block_lt_of_cell bX1_0
    replace l_bX1_1 := block_lt_of_cell bX1_1
    replace l_bG_0 := block_lt_of_cell bG_0
    replace l_bG_1 := block_lt_of_cell bG_1
    clear om21 hch21
    have hdk : decide ((((1 : Int) + (bulk2 x0 : Int)) + (bulk2 x1 : Int)) < 0) = false := decide_eq_false (by omega)
    go_wp2_with fail
    refine (eqAuto_yes rst (.slice aG mG cG) (.slice aW mW cW) rr _ oG.reads oW.reads).mono ?_
    rintro e w22 ⟨rfl, hb22⟩
    replace e0_0 := below_cell hb22 e0_0
    replace e0_1 := below_cell hb22 e0_1
    replace e1_0 := below_cell hb22 e1_0
    replace e1_1 := below_cell hb22 e1_1
    replace bW_0 := below_cell hb22 bW_0
    replace bW_1 := below_cell hb22 bW_1
    replace bX0_0 := below_cell hb22 bX0_0
    replace bX0_1 := below_cell hb22 bX0_1
    replace bX1_0 := below_cell hb22 bX1_0
    replace bX1_1 := below_cell hb22 bX1_1
    replace bG_0 := below_cell hb22 bG_0
    replace bG_1 := below_cell hb22 bG_1
    replace oW := oW.below hb22
    replace oG := oG.below hb22
    replace bcum := below_trans bcum hb22
    have s_w22 : w21.heap.size + 0 ≤ w22.heap.size := by have := hb22.size; simpa using this
    replace l_e0_0 := block_lt_of_cell e0_0
    replace l_e0_1 := block_lt_of_cell e0_1
    replace l_e1_0 := block_lt_of_cell e1_0
    replace l_e1_1 := block_lt_of_cell e1_1
    replace l_bW_0 := block_lt_of_cell bW_0
    replace l_bW_1 := block_lt_of_cell bW_1
    replace l_bX0_0 := block_lt_of_cell bX0_0
    replace l_bX0_1 := block_lt_of_cell bX0_1
    replace l_bX1_0 := block_lt_of_cell bX1_0
    replace l_bX1_1 := block_lt_of_cell bX1_1
    replace l_bG_0 := block_lt_of_cell bG_0
    replace l_bG_1 := block_lt_of_cell bG_1
    clear hb22
    replace oG := oG.low2 (lo2 := w8.heap.size + 1) in_Gn
    go_wp2_with fail
    refine (markAuto_any rst (.slice aG mG cG) (w8.heap.size + 1) (w12.heap.size) _ rr _ _ oG in_Gn (by omega) (by omega) (by omega)).mono ?_
    rintro e w23 ⟨rfl, om23, hch23⟩
    replace e0_0 := hch23.cell e0_0 (by omega)
    replace e0_1 := hch23.cell e0_1 (by omega)
    replace e1_0 := hch23.cell e1_0 (by omega)
    replace e1_1 := hch23.cell e1_1 (by omega)
    replace bW_0 := hch23.cell bW_0 (by omega)
    replace bW_1 := hch23.cell bW_1 (by omega)
    replace bX0_0 := hch23.cell bX0_0 (by omega)
    replace bX0_1 := hch23.cell bX0_1 (by omega)
    replace bX1_0 := hch23.cell bX1_0 (by omega)
    replace bX1_1 := hch23.cell bX1_1 (by omega)
    replace bG_0 := hch23.cell bG_0 (by omega)
    replace bG_1 := hch23.cell bG_1 (by omega)
    replace oW := oW.chg in_W hch23 (by omega)
    replace bcum := bcum.trans ((hch23.below (by omega)).mono (by omega))
    have s_w23 : w22.heap.size ≤ w23.heap.size := hch23.size
    replace l_e0_0 := block_lt_of_cell e0_0
    replace l_e0_1 := block_lt_of_cell e0_1
    replace l_e1_0 := block_lt_of_cell e1_0
    replace l_e1_1 := block_lt_of_cell e1_1
    replace l_bW_0 := block_lt_of_cell bW_0
    replace l_bW_1 := block_lt_of_cell bW_1
    replace l_bX0_0 := block_lt_of_cell bX0_0
    replace l_bX0_1 := block_lt_of_cell bX0_1
    replace l_bX1_0 := block_lt_of_cell bX1_0
    replace l_bX1_1 := block_lt_of_cell bX1_1
    replace l_bG_0 := block_lt_of_cell bG_0
    replace l_bG_1 := block_lt_of_cell bG_1
    clear oG hch23
    have hneq : ((1 + (bulk2 rr : Int)) != 1 + (bulk2 rr : Int)) = false := by simp
    have hdq : decide (1 + (bulk2 rr : Int) < 0) = false := decide_eq_false (by omega)
    go_wp2_with fail
    refine (heldAuto_any rst (.slice aG mG cG) (numRows 1 rr) rr 1 _ om23.reads (by omega) (by omega) rfl).mono ?_
    rintro e w24 ⟨rfl, hb24⟩
    replace e0_0 := below_cell hb24 e0_0
    replace e0_1 := below_cell hb24 e0_1
    replace e1_0 := below_cell hb24 e1_0
    replace e1_1 := below_cell hb24 e1_1
    replace bW_0 := below_cell hb24 bW_0
    replace bW_1 := below_cell hb24 bW_1
    replace bX0_0 := below_cell hb24 bX0_0
    replace bX0_1 := below_cell hb24 bX0_1
    replace bX1_0 := below_cell hb24 bX1_0
    replace bX1_1 := below_cell hb24 bX1_1
    replace bG_0 := below_cell hb24 bG_0
    replace bG_1 := below_cell hb24 bG_1
    replace oW := oW.below hb24
    replace om23 := om23.below hb24
    replace bcum := below_trans bcum hb24
    have s_w24 : w23.heap.size + 0 ≤ w24.heap.size := by have := hb24.size; simpa using this
    replace l_e0_0 := block_lt_of_cell e0_0
    replace l_e0_1 := block_lt_of_cell e0_1
    replace l_e1_0 := block_lt_of_cell e1_0
    replace l_e1_1 := block_lt_of_cell e1_1
    replace l_bW_0 := block_lt_of_cell bW_0
    replace l_bW_1 := block_lt_of_cell bW_1
    replace l_bX0_0 := block_lt_of_cell bX0_0
    replace l_bX0_1 := block_lt_of_cell bX0_1
    replace l_bX1_0 := block_lt_of_cell bX1_0
    replace l_bX1_1 := block_lt_of_cell bX1_1
    replace l_bG_0 := block_lt_of_cell bG_0
    replace l_bG_1 := block_lt_of_cell bG_1
    clear hb24
    have HX25 := Lib.hid (fun W u0 (q0 : Rows2 W u0 x0) u1 (q1 : Rows2 W u1 x1) => HI.out W u0 q0 u1 q1)
    go_wp2
    go_cut [15, 16] (fun sa sb wx => ∃ (gb : Nat) (av : Option Addr) (mv cv : Nat) (rsv : List Value), sa = .pointer (some ⟨gb, 0, none⟩) ∧ sb = .int .i64 rcd ∧ wx.cell? ⟨gb, 0, none⟩ = some (.int .i64 rst) ∧ wx.cell? ⟨gb, 1, none⟩ = some (.slice av mv cv) ∧ OwnRows wx w24.heap.size (.slice av mv cv) rsv rr ∧ Below w24.heap.size w24 wx)
    case first =>
      go_region_held3 (fun w' => Below w24.heap.size w24 w' ∧ ∀ b o, b < w24.heap.size → w'.cell? ⟨b, o, none⟩ = w24.cell? ⟨b, o, none⟩) (first | exact held_start | assumption | exact held_nx (by assumption) (by assumption) | exact held_alloc (by assumption) | exact held_set (held_set (by assumption) (by first | omega | (simp; done) | (simp; omega))) (by first | omega | (simp; done) | (simp; omega)) | exact held_set (by assumption) (by first | omega | (simp; done) | (simp; omega)) | exact held_with (by repeat (first | exact Below.refl _ _ | refine Below.drew ?_ | refine below_alloc ?_ _ | refine below_trans ?_ (by assumption)))) (first | (go_simp; go_at_call 17; refine (HT.out _ _ _ _ (by exact HA0.out) (below_trans bcum (And.left (by assumption)))).mono ?_; rintro e wt0 ⟨vt0, rst0, rfl, ot0, hbt0⟩; obtain ⟨at0, mt0, ct0, rfl, HMt0⟩ := own_shape ot0.outer; obtain ⟨hct0, hft0⟩ := bcell hbt0; have hzt0 := hbt0.size; (try simp at hzt0); (try have : w24.heap.size < wt0.heap.size := by omega); (try have : wt1.heap.size < wt0.heap.size := by omega); (try have : w24.heap.size < wt1.heap.size := by omega); (try have : wt0.heap.size < wt1.heap.size := by omega); (try have : w24.heap.size < w25.heap.size := by omega); (try have : wt0.heap.size < w25.heap.size := by omega); (try have : wt1.heap.size < w25.heap.size := by omega)) | (go_simp; go_at_call 17; refine (HT.out _ _ _ _ (by exact HA1.out) (below_trans bcum (And.left (by assumption)))).mono ?_; rintro e wt1 ⟨vt1, rst1, rfl, ot1, hbt1⟩; obtain ⟨at1, mt1, ct1, rfl, HMt1⟩ := own_shape ot1.outer; obtain ⟨hct1, hft1⟩ := bcell hbt1; have hzt1 := hbt1.size; (try simp at hzt1); (try have : w24.heap.size < wt0.heap.size := by omega); (try have : wt1.heap.size < wt0.heap.size := by omega); (try have : w24.heap.size < wt1.heap.size := by omega); (try have : wt0.heap.size < wt1.heap.size := by omega); (try have : w24.heap.size < w25.heap.size := by omega); (try have : wt0.heap.size < w25.heap.size := by omega); (try have : wt1.heap.size < w25.heap.size := by omega)) | (go_simp; go_at_call 18; refine (HX25.out _ _ (by first | exact OwnRows.reads (by assumption) | exact (OwnRows.reads (by assumption)).kept (by repeat (first | exact Below.refl _ _ | refine Below.drew ?_ | refine below_alloc ?_ _ | refine below_trans ?_ (by assumption)))) _ (by first | exact OwnRows.reads (by assumption) | exact (OwnRows.reads (by assumption)).kept (by repeat (first | exact Below.refl _ _ | refine Below.drew ?_ | refine below_alloc ?_ _ | refine below_trans ?_ (by assumption))))).mono ?_; rintro e w25 ⟨vH, rsH, rfl, oH, hb25⟩; obtain ⟨aH, mH, cH, rfl, HMH⟩ := own_shape oH.outer; obtain ⟨hct, hft⟩ := bcell hb25; have hzt := hb25.size; (try simp at hzt); (try have : w24.heap.size < wt0.heap.size := by omega); (try have : wt1.heap.size < wt0.heap.size := by omega); (try have : w24.heap.size < wt1.heap.size := by omega); (try have : wt0.heap.size < wt1.heap.size := by omega); (try have : w24.heap.size < w25.heap.size := by omega); (try have : wt0.heap.size < w25.heap.size := by omega); (try have : wt1.heap.size < w25.heap.size := by omega)))
      all_goals
        rename Below w24.heap.size w24 _ ∧ _ => hS
        go_wp2_with fail
        go_meet
        refine ⟨_, aH, mH, cH, rsH, rfl, rfl, ?_, ?_, ?_, hS.1⟩
        · go_simp
        · go_simp
        · first | exact (oH.alloc _).mono (by first | omega | (simp; done) | (simp; omega)) | exact ((oH.set_below (by first | omega | (simp; done) | (simp; omega)) _ _).set_below (by first | omega | (simp; done) | (simp; omega)) _ _).mono (by first | omega | (simp; done) | (simp; omega))
    case rest =>
      obtain ⟨gH, aH, mH, cH, rsH, rfl, rfl, bH_0, bH_1, oH, hw25⟩ := hcut
      clear HX25
      obtain ⟨w25, hwc⟩ : ∃ w25, w25 = wc := ⟨_, rfl⟩
      subst hwc
      replace e0_0 := below_cell hw25 e0_0
      replace e0_1 := below_cell hw25 e0_1
      replace e1_0 := below_cell hw25 e1_0
      replace e1_1 := below_cell hw25 e1_1
      replace bW_0 := below_cell hw25 bW_0
      replace bW_1 := below_cell hw25 bW_1
      replace bX0_0 := below_cell hw25 bX0_0
      replace bX0_1 := below_cell hw25 bX0_1
      replace bX1_0 := below_cell hw25 bX1_0
      replace bX1_1 := below_cell hw25 bX1_1
      replace bG_0 := below_cell hw25 bG_0
      replace bG_1 := below_cell hw25 bG_1
      replace oW := oW.below hw25
      replace om23 := om23.below hw25
      replace bcum := below_trans bcum hw25
      have s_w25 : w24.heap.size + 0 ≤ w25.heap.size := by have := hw25.size; simpa using this
      replace l_e0_0 := block_lt_of_cell e0_0
      replace l_e0_1 := block_lt_of_cell e0_1
      replace l_e1_0 := block_lt_of_cell e1_0
      replace l_e1_1 := block_lt_of_cell e1_1
      replace l_bW_0 := block_lt_of_cell bW_0
      replace l_bW_1 := block_lt_of_cell bW_1
      replace l_bX0_0 := block_lt_of_cell bX0_0
      replace l_bX0_1 := block_lt_of_cell bX0_1
      replace l_bX1_0 := block_lt_of_cell bX1_0
      replace l_bX1_1 := block_lt_of_cell bX1_1
      replace l_bG_0 := block_lt_of_cell bG_0
      replace l_bG_1 := block_lt_of_cell bG_1
      have l_bH_0 := block_lt_of_cell bH_0
      have l_bH_1 := block_lt_of_cell bH_1
      have lg_H := l_bH_0
      have in_H := oH.within
      go_wp2_with fail
      refine (eqAuto_yes rst (.slice aH mH cH) (.slice aW mW cW) rr _ oH.reads oW.reads).mono ?_
      rintro e w26 ⟨rfl, hb26⟩
      replace e0_0 := below_cell hb26 e0_0
      replace e0_1 := below_cell hb26 e0_1
      replace e1_0 := below_cell hb26 e1_0
      replace e1_1 := below_cell hb26 e1_1
      replace bW_0 := below_cell hb26 bW_0
      replace bW_1 := below_cell hb26 bW_1
      replace bX0_0 := below_cell hb26 bX0_0
      replace bX0_1 := below_cell hb26 bX0_1
      replace bX1_0 := below_cell hb26 bX1_0
      replace bX1_1 := below_cell hb26 bX1_1
      replace bG_0 := below_cell hb26 bG_0
      replace bG_1 := below_cell hb26 bG_1
      replace bH_0 := below_cell hb26 bH_0
      replace bH_1 := below_cell hb26 bH_1
      replace oW := oW.below hb26
      replace om23 := om23.below hb26
      replace oH := oH.below hb26
      replace bcum := below_trans bcum hb26
      have s_w26 : w25.heap.size + 0 ≤ w26.heap.size := by have := hb26.size; simpa using this
      replace l_e0_0 := block_lt_of_cell e0_0
      replace l_e0_1 := block_lt_of_cell e0_1
      replace l_e1_0 := block_lt_of_cell e1_0
      replace l_e1_1 := block_lt_of_cell e1_1
      replace l_bW_0 := block_lt_of_cell bW_0
      replace l_bW_1 := block_lt_of_cell bW_1
      replace l_bX0_0 := block_lt_of_cell bX0_0
      replace l_bX0_1 := block_lt_of_cell bX0_1
      replace l_bX1_0 := block_lt_of_cell bX1_0
      replace l_bX1_1 := block_lt_of_cell bX1_1
      replace l_bG_0 := block_lt_of_cell bG_0
      replace l_bG_1 := block_lt_of_cell bG_1
      replace l_bH_0 := block_lt_of_cell bH_0
      replace l_bH_1 := block_lt_of_cell bH_1
      clear hb26
      go_wp2_with fail
      refine (heldAuto_any rst (.slice aG mG cG) (numRows 1 rr) rr 1 _ om23.reads (by omega) (by omega) rfl).mono ?_
      rintro e w27 ⟨rfl, hb27⟩
      replace e0_0 := below_cell hb27 e0_0
      replace e0_1 := below_cell hb27 e0_1
      replace e1_0 := below_cell hb27 e1_0
      replace e1_1 := below_cell hb27 e1_1
      replace bW_0 := below_cell hb27 bW_0
      replace bW_1 := below_cell hb27 bW_1
      replace bX0_0 := below_cell hb27 bX0_0
      replace bX0_1 := below_cell hb27 bX0_1
      replace bX1_0 := below_cell hb27 bX1_0
      replace bX1_1 := below_cell hb27 bX1_1
      replace bG_0 := below_cell hb27 bG_0
      replace bG_1 := below_cell hb27 bG_1
      replace bH_0 := below_cell hb27 bH_0
      replace bH_1 := below_cell hb27 bH_1
      replace oW := oW.below hb27
      replace om23 := om23.below hb27
      replace oH := oH.below hb27
      replace bcum := below_trans bcum hb27
      have s_w27 : w26.heap.size + 0 ≤ w27.heap.size := by have := hb27.size; simpa using this
      replace l_e0_0 := block_lt_of_cell e0_0
      replace l_e0_1 := block_lt_of_cell e0_1
      replace l_e1_0 := block_lt_of_cell e1_0
      replace l_e1_1 := block_lt_of_cell e1_1
      replace l_bW_0 := block_lt_of_cell bW_0
      replace l_bW_1 := block_lt_of_cell bW_1
      replace l_bX0_0 := block_lt_of_cell bX0_0
      replace l_bX0_1 := block_lt_of_cell bX0_1
      replace l_bX1_0 := block_lt_of_cell bX1_0
      replace l_bX1_1 := block_lt_of_cell bX1_1
      replace l_bG_0 := block_lt_of_cell bG_0
      replace l_bG_1 := block_lt_of_cell bG_1
      replace l_bH_0 := block_lt_of_cell bH_0
      replace l_bH_1 := block_lt_of_cell bH_1
      clear hb27
      go_wp2
      go_ret
      exact ⟨rfl, bcum⟩

end Go.Proofs.Ytkmaglifohffnaa
