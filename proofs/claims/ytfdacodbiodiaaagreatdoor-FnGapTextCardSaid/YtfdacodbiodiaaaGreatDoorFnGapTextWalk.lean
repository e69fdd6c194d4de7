/- FnGapText's walk. Written by gen_gaptext.py. -/
import Derived.Test.YtfdacodbiodiaaaGreatDoorDrawP6
import Derived.Test.YtfdacodbiodiaaaGreatDoorGapLaw
import Derived.Test.YtfdacodbiodiaaaGreatDoorGapsLaw
import Derived.Test.YtfdacodbiodiaaaGreatDoorSame
import Derived.Test.YtfdacodbiodiaaaGreatDoorRdChoI
namespace Go.Proofs.YtfdacodbiodiaaaGreatDoor
set_option linter.unusedVariables false
set_option linter.unusedSimpArgs false
open Go.ChangeShapes Go.WideShapes Go.ChangeAt Go.RowKit

theorem choTx_size (st : Int) (xss : List (List (List Int))) : (choTx st xss).size ≤ 2000 := by
  unfold choTx
  split
  · rename_i h
    obtain ⟨n, g⟩ := goodC_of h
    have h1 := rowsC'_size (B := 400) letterC xss (fun r hr => lineC_size g.hi r (goodC_mem g r hr).1 (fun z hz => ((goodC_mem g r hr).2 z hz).1)) (lineB choiceW [st, xss.length])
    have h2 := lineB_size choiceW [st, (xss.length : Int)]
    have h3 : choiceW.size = 6 := rfl
    have h5 := g.len3
    simp at h2
    omega
  · exact Nat.zero_le _
/-- v is a slice of bytes -/
def BytesA (w : World) (v : Value) : Prop :=
  ∃ ao b o n c, v = .slice ao n c ∧ n ≤ 9223372036854775807 ∧ (0 < n → ao = some ⟨b, o, none⟩) ∧ ∀ k, k < n → ∃ x : Int, w.cell? ⟨b, o + k, none⟩ = some (.int .u8 x) ∧ 0 ≤ x ∧ x ≤ 255
theorem f6big_any (ao : Option Addr) (n c : Nat) (w : World) (hn : n ≤ 9223372036854775807) : Calls Tryz.prog 4 #[.slice ao n c] w fun e w' => e = .returned (.bool (decide ((4096 : Int) < (n : Int)))) ∧ w = w' := by
  go_enter Tryz.func4, Tryz.ntmps4
  go_wp2
  go_ret
  exact ⟨rfl, rfl⟩

set_option maxRecDepth 100000 in
set_option maxHeartbeats 16000000 in
theorem walk_FnGapText (w : World) (v1 v2 : Value) (h1 : BytesA w v1) (h2 : BytesA w v2) (E : Env w) :
    Calls Tryz.prog 3 #[v1, v2] w fun e w' => e = .returned (.bool true) ∧ Below w.heap.size w w' := by
  obtain ⟨ao1, b1, o1, n1, c1, rfl, hn1, ha1, hx1⟩ := h1
  obtain ⟨ao2, b2, o2, n2, c2, rfl, hn2, ha2, hx2⟩ := h2
  have HG1 := Lib.hid (fun W => f6big_any ao1 n1 c1 W hn1)
  have HG2 := Lib.hid (fun W => f6big_any ao2 n2 c2 W hn2)
  by_cases hL1 : ¬ n1 ≤ 4096
  · have hd : decide ((4096 : Int) < (n1 : Int)) = true := decide_eq_true (by omega)
    rw [hd] at HG1
    clear hd ha1 ha2 hx1 hx2 E
    go_enter Tryz.func3, Tryz.ntmps3
    go_wp2_with fail
    refine (HG1.out _).mono ?_
    rintro e w1 ⟨rfl, rfl⟩
    go_wp2
    go_ret
    exact ⟨rfl, Below.refl _ _⟩
  replace hL1 := Decidable.not_not.1 hL1
  have hd1 : decide ((4096 : Int) < (n1 : Int)) = false := decide_eq_false (by omega)
  rw [hd1] at HG1
  by_cases hL2 : ¬ n2 ≤ 4096
  · have hd : decide ((4096 : Int) < (n2 : Int)) = true := decide_eq_true (by omega)
    rw [hd] at HG2
    clear hd ha1 ha2 hx1 hx2 E
    go_enter Tryz.func3, Tryz.ntmps3
    go_wp2_with fail
    refine (HG1.out _).mono ?_
    rintro e w1 ⟨rfl, rfl⟩
    go_wp2_with fail
    refine (HG2.out _).mono ?_
    rintro e w2 ⟨rfl, rfl⟩
    go_wp2
    go_ret
    exact ⟨rfl, Below.refl _ _⟩
  replace hL2 := Decidable.not_not.1 hL2
  have hd2 : decide ((4096 : Int) < (n2 : Int)) = false := decide_eq_false (by omega)
  rw [hd2] at HG2
  have HB1 : Hid (BytesB w (.slice ao1 n1 c1) w.heap.size) := ⟨ao1, b1, o1, n1, c1, rfl, by omega, fun h => ⟨ha1 h, by obtain ⟨x, hx, _⟩ := hx1 0 h; exact block_lt_of_cell hx⟩, hx1⟩
  have HB2 : Hid (BytesB w (.slice ao2 n2 c2) w.heap.size) := ⟨ao2, b2, o2, n2, c2, rfl, by omega, fun h => ⟨ha2 h, by obtain ⟨x, hx, _⟩ := hx2 0 h; exact block_lt_of_cell hx⟩, hx2⟩
  have HBW := Lib.hid (fun W (hW : Below w.heap.size w W) => HB2.out.wide hW.size (fun b o hb => hW.cell (p := ⟨b, o, none⟩) hb))
  have HENV := Lib.hid (fun W (hW : Below w.heap.size w W) => E.below hW)
  clear hd1 hd2 ha1 ha2 hx1 hx2 E HB2
  go_enter Tryz.func3, Tryz.ntmps3
  go_wp2_with fail
  refine (HG1.out _).mono ?_
  rintro e w1 ⟨rfl, rfl⟩
  go_wp2_with fail
  refine (HG2.out _).mono ?_
  rintro e w2 ⟨rfl, rfl⟩
  clear HG1 HG2
  go_wp2_with fail
  refine (p6Partial_any _ _ HB1.out).mono ?_
  rintro e u1 ⟨st, vp, rsp, xss, rfl, op, hvp, hb1⟩
  have bcum := hb1
  have s_u1 : w.heap.size + 0 ≤ u1.heap.size := by have := hb1.size; simpa using this
  clear hb1
  obtain ⟨ap, mp, cp, rfl, HMp⟩ := own_shape op.outer
  obtain ⟨n, hgp⟩ := goodP_of hvp
  have hlo := hgp.lo
  have hhi := hgp.hi
  have hst1 : 1 ≤ st := by have := hgp.st; omega
  have hst2 : st ≤ 10 := by have := hgp.st; omega
  have hl1 := hgp.len1
  have hl3 := hgp.len3
  have HTX := Lib.hid (fun W (q : Rows2 W (.slice ap mp cp) xss) => implPartText_any st _ xss W q)
  have HTY := Lib.hid (fun W u (q : Rows2 W u xss) => implPartText_any st u xss W q)
  have hszt : (partTx st xss).size ≤ 1048576 := Nat.le_trans (partTx_size st xss) (by omega)
  have HRP := Lib.hid (fun W (hW : Below w.heap.size w W) => implReadPart_any (partTx st xss) W (HENV.out W hW) hszt)
  rw [rp_yesS (partTx_size st xss) hvp rfl] at HRP
  have HGO := Lib.hid (fun W u (q : Rows2 W u xss) => implGapsOf_any st u xss W q)
  rw [show gapZs st xss = gapsOf xss by unfold gapZs; rw [if_pos hvp], show gapCd st xss = 0 by unfold gapCd; rw [if_pos hvp]] at HGO
  have HVP := Lib.hid (fun W u (q : Rows2 W u xss) => validPart_any st u xss W q)
  rw [hvp] at HVP
  have HSP := Lib.hid (fun W u v (q : Rows2 W u xss) (q2 : Rows2 W v xss) => specSamePart_any st st u v xss xss W q q2)
  rw [decide_eq_true (show st = st ∧ xss = xss from ⟨rfl, rfl⟩)] at HSP
  have HSA := Lib.hid (fun W u v ys (q : Rows2 W u ys) (q2 : Rows2 W v ys) => (show Calls Tryz.prog 19 #[.agg #[.int .i64 st, u], .agg #[.int .i64 st, v]] W (RetB (.bool true) W) from by have h := specSameAuto_any st st u v ys ys W q q2; rwa [decide_eq_true (show st = st ∧ ys = ys from ⟨rfl, rfl⟩)] at h))
  have HFC := Lib.hid (fun zs (hl : zs.length = (gapsOf xss).length) (hz : ∀ z ∈ zs, 0 ≤ z ∧ z < st) => show fgCd st xss zs = 0 from by unfold fgCd; rw [if_pos hvp, if_pos hl, if_pos (allIn_iff.2 fun z hz2 => by have := hz z hz2; omega)])
  have hgl : (gapsOf xss).length ≤ 40 := gapsOf_len hgp
  have HGP := Lib.hid hgp
  have HVV := Lib.hid hvp
  generalize partTx st xss = tx at HTX HRP hszt
  clear hgp hvp HTY hszt
  have bx2 : Below u1.heap.size u1 (u1.alloc (.cells #[.int .i64 st, .slice ap mp cp] 26)) := below_alloc (Below.refl _ _) _
  have bp_0 : (u1.alloc (.cells #[.int .i64 st, .slice ap mp cp] 26)).cell? ⟨u1.heap.size, 0, none⟩ = some (.int .i64 st) := by go_simp
  have bp_1 : (u1.alloc (.cells #[.int .i64 st, .slice ap mp cp] 26)).cell? ⟨u1.heap.size, 1, none⟩ = some (.slice ap mp cp) := by go_simp
  go_wp2_with fail
  refine (p6Choice_any _ _ (HBW.out _ (below_trans bcum bx2))).mono ?_
  rintro e u3 ⟨sc, vc, rsc, css, rfl, oc, hvc, hb3⟩
  have B4 := below_trans bx2 hb3
  replace bp_0 := below_cell hb3 bp_0
  replace bp_1 := below_cell hb3 bp_1
  replace op := op.below B4
  replace bcum := below_trans bcum B4
  have s_u3 : u1.heap.size + 1 ≤ u3.heap.size := by have := hb3.size; simpa using this
  have l_bp_0 := block_lt_of_cell bp_0
  have l_bp_1 := block_lt_of_cell bp_1
  clear hb3
  obtain ⟨ac, mc, cc, rfl, HMc⟩ := own_shape oc.outer
  have HCX := Lib.hid (fun W (q : Rows3 W (.slice ac mc cc) css) => implChoText_any sc _ css W q)
  have hszc : (choTx sc css).size ≤ 1048576 := Nat.le_trans (choTx_size sc css) (by omega)
  have HRC := Lib.hid (fun W (hW : Below w.heap.size w W) => implReadCho_any (choTx sc css) W (HENV.out W hW) hszc)
  rw [rc_yesS (choTx_size sc css) hvc rfl] at HRC
  have HVC := Lib.hid (fun W u (q : Rows3 W u css) => validChoice_any sc u css W q)
  rw [hvc] at HVC
  have HSC := Lib.hid (fun W u v (q : Rows3 W u css) (q2 : Rows3 W v css) => specSameChoice_any sc sc u v css css W q q2)
  rw [decide_eq_true (show sc = sc ∧ css = css from ⟨rfl, rfl⟩)] at HSC
  generalize choTx sc css = txc at HCX HRC hszc
  clear hvc hszc
  have bx5 : Below u3.heap.size u3 (u3.alloc (.cells #[.int .i64 sc, .slice ac mc cc] 30)) := below_alloc (Below.refl _ _) _
  have bc_0 : (u3.alloc (.cells #[.int .i64 sc, .slice ac mc cc] 30)).cell? ⟨u3.heap.size, 0, none⟩ = some (.int .i64 sc) := by go_simp
  have bc_1 : (u3.alloc (.cells #[.int .i64 sc, .slice ac mc cc] 30)).cell? ⟨u3.heap.size, 1, none⟩ = some (.slice ac mc cc) := by go_simp
  go_wp2_with fail
  refine (HTX.out _ ((op.reads).kept bx5)).mono ?_
  rintro e u6 ⟨rfl, hb6⟩
  have B7 := below_trans bx5 hb6
  replace bp_0 := below_cell B7 bp_0
  replace bp_1 := below_cell B7 bp_1
  replace bc_0 := below_cell hb6 bc_0
  replace bc_1 := below_cell hb6 bc_1
  replace op := op.below B7
  replace oc := oc.below B7
  replace bcum := below_trans bcum B7
  have s_u6 : u3.heap.size + 1 ≤ u6.heap.size := by have := hb6.size; simpa using this
  replace l_bp_0 := block_lt_of_cell bp_0
  replace l_bp_1 := block_lt_of_cell bp_1
  have l_bc_0 := block_lt_of_cell bc_0
  have l_bc_1 := block_lt_of_cell bc_1
  clear hb6
  go_wp2_with fail
  refine (HRP.out _ bcum).mono ?_
  rintro e u8 ⟨vq, rsq, rfl, oq, hb8⟩
  replace bp_0 := below_cell hb8 bp_0
  replace bp_1 := below_cell hb8 bp_1
  replace bc_0 := below_cell hb8 bc_0
  replace bc_1 := below_cell hb8 bc_1
  replace op := op.below hb8
  replace oc := oc.below hb8
  replace bcum := below_trans bcum hb8
  have s_u8 : u6.heap.size + 0 ≤ u8.heap.size := by have := hb8.size; simpa using this
  replace l_bp_0 := block_lt_of_cell bp_0
  replace l_bp_1 := block_lt_of_cell bp_1
  replace l_bc_0 := block_lt_of_cell bc_0
  replace l_bc_1 := block_lt_of_cell bc_1
  clear hb8
  obtain ⟨aq, mq, cq, rfl, HMq⟩ := own_shape oq.outer
  have bx9 : Below u8.heap.size u8 (u8.alloc (.cells #[.int .i64 st, .slice aq mq cq] 26)) := below_alloc (Below.refl _ _) _
  have bq_0 : (u8.alloc (.cells #[.int .i64 st, .slice aq mq cq] 26)).cell? ⟨u8.heap.size, 0, none⟩ = some (.int .i64 st) := by go_simp
  have bq_1 : (u8.alloc (.cells #[.int .i64 st, .slice aq mq cq] 26)).cell? ⟨u8.heap.size, 1, none⟩ = some (.slice aq mq cq) := by go_simp
  go_wp2_with fail
  refine (HCX.out _ (Rows3.kept (oc.reads) bx9)).mono ?_
  rintro e u10 ⟨rfl, hb10⟩
  have B11 := below_trans bx9 hb10
  replace bp_0 := below_cell B11 bp_0
  replace bp_1 := below_cell B11 bp_1
  replace bc_0 := below_cell B11 bc_0
  replace bc_1 := below_cell B11 bc_1
  replace bq_0 := below_cell hb10 bq_0
  replace bq_1 := below_cell hb10 bq_1
  replace op := op.below B11
  replace oc := oc.below B11
  replace oq := oq.below B11
  replace bcum := below_trans bcum B11
  have s_u10 : u8.heap.size + 1 ≤ u10.heap.size := by have := hb10.size; simpa using this
  replace l_bp_0 := block_lt_of_cell bp_0
  replace l_bp_1 := block_lt_of_cell bp_1
  replace l_bc_0 := block_lt_of_cell bc_0
  replace l_bc_1 := block_lt_of_cell bc_1
  have l_bq_0 := block_lt_of_cell bq_0
  have l_bq_1 := block_lt_of_cell bq_1
  clear hb10
  go_wp2_with fail
  refine (HRC.out _ bcum).mono ?_
  rintro e u12 ⟨vd, rsd, rfl, od, hb12⟩
  replace bp_0 := below_cell hb12 bp_0
  replace bp_1 := below_cell hb12 bp_1
  replace bc_0 := below_cell hb12 bc_0
  replace bc_1 := below_cell hb12 bc_1
  replace bq_0 := below_cell hb12 bq_0
  replace bq_1 := below_cell hb12 bq_1
  replace op := op.below hb12
  replace oc := oc.below hb12
  replace oq := oq.below hb12
  replace bcum := below_trans bcum hb12
  have s_u12 : u10.heap.size + 0 ≤ u12.heap.size := by have := hb12.size; simpa using this
  replace l_bp_0 := block_lt_of_cell bp_0
  replace l_bp_1 := block_lt_of_cell bp_1
  replace l_bc_0 := block_lt_of_cell bc_0
  replace l_bc_1 := block_lt_of_cell bc_1
  replace l_bq_0 := block_lt_of_cell bq_0
  replace l_bq_1 := block_lt_of_cell bq_1
  clear hb12
  obtain ⟨ad, md, cd, rfl, HMd⟩ := own_shape od.outer
  have bx13 : Below u12.heap.size u12 (u12.alloc (.cells #[.int .i64 sc, .slice ad md cd] 30)) := below_alloc (Below.refl _ _) _
  have bd_0 : (u12.alloc (.cells #[.int .i64 sc, .slice ad md cd] 30)).cell? ⟨u12.heap.size, 0, none⟩ = some (.int .i64 sc) := by go_simp
  have bd_1 : (u12.alloc (.cells #[.int .i64 sc, .slice ad md cd] 30)).cell? ⟨u12.heap.size, 1, none⟩ = some (.slice ad md cd) := by go_simp
  go_wp2_with fail
  refine (HGO.out _ _ ((op.reads).kept bx13)).mono ?_
  rintro e u14 ⟨vg, rfl, og, hb14⟩
  have B15 := below_trans bx13 hb14
  replace bp_0 := below_cell B15 bp_0
  replace bp_1 := below_cell B15 bp_1
  replace bc_0 := below_cell B15 bc_0
  replace bc_1 := below_cell B15 bc_1
  replace bq_0 := below_cell B15 bq_0
  replace bq_1 := below_cell B15 bq_1
  replace bd_0 := below_cell hb14 bd_0
  replace bd_1 := below_cell hb14 bd_1
  replace op := op.below B15
  replace oc := oc.below B15
  replace oq := oq.below B15
  replace od := od.below B15
  replace bcum := below_trans bcum B15
  have s_u14 : u12.heap.size + 1 ≤ u14.heap.size := by have := hb14.size; simpa using this
  replace l_bp_0 := block_lt_of_cell bp_0
  replace l_bp_1 := block_lt_of_cell bp_1
  replace l_bc_0 := block_lt_of_cell bc_0
  replace l_bc_1 := block_lt_of_cell bc_1
  replace l_bq_0 := block_lt_of_cell bq_0
  replace l_bq_1 := block_lt_of_cell bq_1
  have l_bd_0 := block_lt_of_cell bd_0
  have l_bd_1 := block_lt_of_cell bd_1
  clear hb14
  obtain ⟨ag, mg, cg, rfl, HMg⟩ := own_shape og
  obtain rfl : mg = (gapsOf xss).length := HMg.out
  go_wp2_with fail
  refine (HSP.out _ _ _ (op.reads) (oq.reads)).mono ?_
  rintro e u16 ⟨rfl, hb16⟩
  replace bp_0 := below_cell hb16 bp_0
  replace bp_1 := below_cell hb16 bp_1
  replace bc_0 := below_cell hb16 bc_0
  replace bc_1 := below_cell hb16 bc_1
  replace bq_0 := below_cell hb16 bq_0
  replace bq_1 := below_cell hb16 bq_1
  replace bd_0 := below_cell hb16 bd_0
  replace bd_1 := below_cell hb16 bd_1
  replace op := op.below hb16
  replace oc := oc.below hb16
  replace oq := oq.below hb16
  replace od := od.below hb16
  replace og := own_below og hb16
  replace bcum := below_trans bcum hb16
  have s_u16 : u14.heap.size + 0 ≤ u16.heap.size := by have := hb16.size; simpa using this
  replace l_bp_0 := block_lt_of_cell bp_0
  replace l_bp_1 := block_lt_of_cell bp_1
  replace l_bc_0 := block_lt_of_cell bc_0
  replace l_bc_1 := block_lt_of_cell bc_1
  replace l_bq_0 := block_lt_of_cell bq_0
  replace l_bq_1 := block_lt_of_cell bq_1
  replace l_bd_0 := block_lt_of_cell bd_0
  replace l_bd_1 := block_lt_of_cell bd_1
  clear hb16
  go_wp2_with fail
  refine (HSC.out _ _ _ (oc.reads) (od.reads)).mono ?_
  rintro e u17 ⟨rfl, hb17⟩
  replace bp_0 := below_cell hb17 bp_0
  replace bp_1 := below_cell hb17 bp_1
  replace bc_0 := below_cell hb17 bc_0
  replace bc_1 := below_cell hb17 bc_1
  replace bq_0 := below_cell hb17 bq_0
  replace bq_1 := below_cell hb17 bq_1
  replace bd_0 := below_cell hb17 bd_0
  replace bd_1 := below_cell hb17 bd_1
  replace op := op.below hb17
  replace oc := oc.below hb17
  replace oq := oq.below hb17
  replace od := od.below hb17
  replace og := own_below og hb17
  replace bcum := below_trans bcum hb17
  have s_u17 : u16.heap.size + 0 ≤ u17.heap.size := by have := hb17.size; simpa using this
  replace l_bp_0 := block_lt_of_cell bp_0
  replace l_bp_1 := block_lt_of_cell bp_1
  replace l_bc_0 := block_lt_of_cell bc_0
  replace l_bc_1 := block_lt_of_cell bc_1
  replace l_bq_0 := block_lt_of_cell bq_0
  replace l_bq_1 := block_lt_of_cell bq_1
  replace l_bd_0 := block_lt_of_cell bd_0
  replace l_bd_1 := block_lt_of_cell bd_1
  clear hb17
  go_wp2_with fail
  refine (HVP.out _ _ (op.reads)).mono ?_
  rintro e u18 ⟨rfl, hb18⟩
  replace bp_0 := below_cell hb18 bp_0
  replace bp_1 := below_cell hb18 bp_1
  replace bc_0 := below_cell hb18 bc_0
  replace bc_1 := below_cell hb18 bc_1
  replace bq_0 := below_cell hb18 bq_0
  replace bq_1 := below_cell hb18 bq_1
  replace bd_0 := below_cell hb18 bd_0
  replace bd_1 := below_cell hb18 bd_1
  replace op := op.below hb18
  replace oc := oc.below hb18
  replace oq := oq.below hb18
  replace od := od.below hb18
  replace og := own_below og hb18
  replace bcum := below_trans bcum hb18
  have s_u18 : u17.heap.size + 0 ≤ u18.heap.size := by have := hb18.size; simpa using this
  replace l_bp_0 := block_lt_of_cell bp_0
  replace l_bp_1 := block_lt_of_cell bp_1
  replace l_bc_0 := block_lt_of_cell bc_0
  replace l_bc_1 := block_lt_of_cell bc_1
  replace l_bq_0 := block_lt_of_cell bq_0
  replace l_bq_1 := block_lt_of_cell bq_1
  replace l_bd_0 := block_lt_of_cell bd_0
  replace l_bd_1 := block_lt_of_cell bd_1
  clear hb18
  go_wp2_with fail
  refine (HVC.out _ _ (oc.reads)).mono ?_
  rintro e u19 ⟨rfl, hb19⟩
  replace bp_0 := below_cell hb19 bp_0
  replace bp_1 := below_cell hb19 bp_1
  replace bc_0 := below_cell hb19 bc_0
  replace bc_1 := below_cell hb19 bc_1
  replace bq_0 := below_cell hb19 bq_0
  replace bq_1 := below_cell hb19 bq_1
  replace bd_0 := below_cell hb19 bd_0
  replace bd_1 := below_cell hb19 bd_1
  replace op := op.below hb19
  replace oc := oc.below hb19
  replace oq := oq.below hb19
  replace od := od.below hb19
  replace og := own_below og hb19
  replace bcum := below_trans bcum hb19
  have s_u19 : u18.heap.size + 0 ≤ u19.heap.size := by have := hb19.size; simpa using this
  replace l_bp_0 := block_lt_of_cell bp_0
  replace l_bp_1 := block_lt_of_cell bp_1
  replace l_bc_0 := block_lt_of_cell bc_0
  replace l_bc_1 := block_lt_of_cell bc_1
  replace l_bq_0 := block_lt_of_cell bq_0
  replace l_bq_1 := block_lt_of_cell bq_1
  replace l_bd_0 := block_lt_of_cell bd_0
  replace l_bd_1 := block_lt_of_cell bd_1
  clear hb19
  clear HSP HSC HVP HVC HGO HTX HRP HCX HRC
  go_wp2_with fail
  refine (p6States_any _ (gapsOf xss).length st _ (HBW.out _ bcum) (by omega) (by omega) (by omega)).mono ?_
  rintro e u20 ⟨vs, zs, rfl, os, hzl, hzr, hb20⟩
  replace bp_0 := below_cell hb20 bp_0
  replace bp_1 := below_cell hb20 bp_1
  replace bc_0 := below_cell hb20 bc_0
  replace bc_1 := below_cell hb20 bc_1
  replace bq_0 := below_cell hb20 bq_0
  replace bq_1 := below_cell hb20 bq_1
  replace bd_0 := below_cell hb20 bd_0
  replace bd_1 := below_cell hb20 bd_1
  replace op := op.below hb20
  replace oc := oc.below hb20
  replace oq := oq.below hb20
  replace od := od.below hb20
  replace og := own_below og hb20
  replace bcum := below_trans bcum hb20
  have s_u20 : u19.heap.size + 0 ≤ u20.heap.size := by have := hb20.size; simpa using this
  replace l_bp_0 := block_lt_of_cell bp_0
  replace l_bp_1 := block_lt_of_cell bp_1
  replace l_bc_0 := block_lt_of_cell bc_0
  replace l_bc_1 := block_lt_of_cell bc_1
  replace l_bq_0 := block_lt_of_cell bq_0
  replace l_bq_1 := block_lt_of_cell bq_1
  replace l_bd_0 := block_lt_of_cell bd_0
  replace l_bd_1 := block_lt_of_cell bd_1
  clear hb20
  obtain ⟨az, mz, cz, rfl, HMz⟩ := own_shape os
  have hfc := HFC.out zs hzl hzr
  have HFI := Lib.hid (fun W u v (q : Rows2 W u xss) (q2 : Ints W v zs) => implFill_any st u xss v zs W q q2)
  have HFS := Lib.hid (fun W u v (q : Rows2 W u xss) (q2 : Ints W v zs) => specFill_any st u xss v zs W q q2)
  rw [show fgSt st xss zs = st by unfold fgSt; rw [if_pos hfc], hfc, show fgRows st xss zs = fillTo xss zs (gapsOf xss).length by unfold fgRows; rw [if_pos hfc]] at HFI HFS
  have HDU := Lib.hid (fun k s (hk : k < xss.length) (hs : s < n) => fill_due HGP.out zs hk hs)
  have HFL : Hid ((fillTo xss zs (gapsOf xss).length).length = xss.length) := fillTo_len _ _ _
  have HFR := Lib.hid (fun k => fillTo_row xss zs (gapsOf xss).length k)
  generalize fillTo xss zs (gapsOf xss).length = FT at HFI HFS HDU HFL HFR
  have HZL := Lib.hid hzl
  clear hfc hzl hzr HFC
  go_wp2_with fail
  refine (HFI.out _ _ _ (op.reads) (ints_of_own os)).mono ?_
  rintro e u21 ⟨va, rsa, rfl, oa, hb21⟩
  replace bp_0 := below_cell hb21 bp_0
  replace bp_1 := below_cell hb21 bp_1
  replace bc_0 := below_cell hb21 bc_0
  replace bc_1 := below_cell hb21 bc_1
  replace bq_0 := below_cell hb21 bq_0
  replace bq_1 := below_cell hb21 bq_1
  replace bd_0 := below_cell hb21 bd_0
  replace bd_1 := below_cell hb21 bd_1
  replace op := op.below hb21
  replace oc := oc.below hb21
  replace oq := oq.below hb21
  replace od := od.below hb21
  replace og := own_below og hb21
  replace os := own_below os hb21
  replace bcum := below_trans bcum hb21
  have s_u21 : u20.heap.size + 0 ≤ u21.heap.size := by have := hb21.size; simpa using this
  replace l_bp_0 := block_lt_of_cell bp_0
  replace l_bp_1 := block_lt_of_cell bp_1
  replace l_bc_0 := block_lt_of_cell bc_0
  replace l_bc_1 := block_lt_of_cell bc_1
  replace l_bq_0 := block_lt_of_cell bq_0
  replace l_bq_1 := block_lt_of_cell bq_1
  replace l_bd_0 := block_lt_of_cell bd_0
  replace l_bd_1 := block_lt_of_cell bd_1
  clear hb21
  obtain ⟨aa, ma, ca, rfl, HMa⟩ := own_shape oa.outer
  have bx22 : Below u21.heap.size u21 (u21.alloc (.cells #[.int .i64 st, .slice aa ma ca] 47)) := below_alloc (Below.refl _ _) _
  have ba_0 : (u21.alloc (.cells #[.int .i64 st, .slice aa ma ca] 47)).cell? ⟨u21.heap.size, 0, none⟩ = some (.int .i64 st) := by go_simp
  have ba_1 : (u21.alloc (.cells #[.int .i64 st, .slice aa ma ca] 47)).cell? ⟨u21.heap.size, 1, none⟩ = some (.slice aa ma ca) := by go_simp
  go_wp2_with fail
  refine (HFS.out _ _ _ ((op.reads).kept bx22) ((ints_of_own os).kept bx22)).mono ?_
  rintro e u23 ⟨vm, rsm, rfl, om, hb23⟩
  have B24 := below_trans bx22 hb23
  replace bp_0 := below_cell B24 bp_0
  replace bp_1 := below_cell B24 bp_1
  replace bc_0 := below_cell B24 bc_0
  replace bc_1 := below_cell B24 bc_1
  replace bq_0 := below_cell B24 bq_0
  replace bq_1 := below_cell B24 bq_1
  replace bd_0 := below_cell B24 bd_0
  replace bd_1 := below_cell B24 bd_1
  replace ba_0 := below_cell hb23 ba_0
  replace ba_1 := below_cell hb23 ba_1
  replace op := op.below B24
  replace oc := oc.below B24
  replace oq := oq.below B24
  replace od := od.below B24
  replace og := own_below og B24
  replace os := own_below os B24
  replace oa := oa.below B24
  replace bcum := below_trans bcum B24
  have s_u23 : u21.heap.size + 1 ≤ u23.heap.size := by have := hb23.size; simpa using this
  replace l_bp_0 := block_lt_of_cell bp_0
  replace l_bp_1 := block_lt_of_cell bp_1
  replace l_bc_0 := block_lt_of_cell bc_0
  replace l_bc_1 := block_lt_of_cell bc_1
  replace l_bq_0 := block_lt_of_cell bq_0
  replace l_bq_1 := block_lt_of_cell bq_1
  replace l_bd_0 := block_lt_of_cell bd_0
  replace l_bd_1 := block_lt_of_cell bd_1
  have l_ba_0 := block_lt_of_cell ba_0
  have l_ba_1 := block_lt_of_cell ba_1
  clear hb23
  obtain ⟨am, mm, cm, rfl, HMm⟩ := own_shape om.outer
  have bx25 : Below u23.heap.size u23 (u23.alloc (.cells #[.int .i64 st, .slice am mm cm] 47)) := below_alloc (Below.refl _ _) _
  have bm_0 : (u23.alloc (.cells #[.int .i64 st, .slice am mm cm] 47)).cell? ⟨u23.heap.size, 0, none⟩ = some (.int .i64 st) := by go_simp
  have bm_1 : (u23.alloc (.cells #[.int .i64 st, .slice am mm cm] 47)).cell? ⟨u23.heap.size, 1, none⟩ = some (.slice am mm cm) := by go_simp
  go_wp2_with fail
  refine (HSA.out _ _ _ FT ((oa.reads).kept bx25) ((om.reads).kept bx25)).mono ?_
  rintro e u26 ⟨rfl, hb26⟩
  have B27 := below_trans bx25 hb26
  replace bp_0 := below_cell B27 bp_0
  replace bp_1 := below_cell B27 bp_1
  replace bc_0 := below_cell B27 bc_0
  replace bc_1 := below_cell B27 bc_1
  replace bq_0 := below_cell B27 bq_0
  replace bq_1 := below_cell B27 bq_1
  replace bd_0 := below_cell B27 bd_0
  replace bd_1 := below_cell B27 bd_1
  replace ba_0 := below_cell B27 ba_0
  replace ba_1 := below_cell B27 ba_1
  replace bm_0 := below_cell hb26 bm_0
  replace bm_1 := below_cell hb26 bm_1
  replace op := op.below B27
  replace oc := oc.below B27
  replace oq := oq.below B27
  replace od := od.below B27
  replace og := own_below og B27
  replace os := own_below os B27
  replace oa := oa.below B27
  replace om := om.below B27
  replace bcum := below_trans bcum B27
  have s_u26 : u23.heap.size + 1 ≤ u26.heap.size := by have := hb26.size; simpa using this
  replace l_bp_0 := block_lt_of_cell bp_0
  replace l_bp_1 := block_lt_of_cell bp_1
  replace l_bc_0 := block_lt_of_cell bc_0
  replace l_bc_1 := block_lt_of_cell bc_1
  replace l_bq_0 := block_lt_of_cell bq_0
  replace l_bq_1 := block_lt_of_cell bq_1
  replace l_bd_0 := block_lt_of_cell bd_0
  replace l_bd_1 := block_lt_of_cell bd_1
  replace l_ba_0 := block_lt_of_cell ba_0
  replace l_ba_1 := block_lt_of_cell ba_1
  have l_bm_0 := block_lt_of_cell bm_0
  have l_bm_1 := block_lt_of_cell bm_1
  clear hb26
  clear HSA HFI HFS HBW HENV
  obtain ⟨aop, bbp, oop, ccp, PO⟩ := op.reads.open
  obtain ⟨aom, bbm, oom, ccm, MO⟩ := om.reads.open
  have hpv := PO.val
  have hmv := MO.val
  injection hpv with hpv1 hpv2 hpv3
  injection hmv with hmv1 hmv2 hmv3
  subst hpv1 hpv2 hpv3 hmv1 hmv2 hmv3
  obtain ⟨aog, bbg, ccg, GI⟩ := gaps_in og
  have hgv := GI.val
  injection hgv with hgv1 hgv2 hgv3
  subst hgv1 hgv3
  obtain ⟨aos, bbs, oos, ccs, SO⟩ := (ints_of_own os).open
  have hsv := SO.val
  injection hsv with hsv1 hsv2 hsv3
  subst hsv1 hsv2 hsv3
  have PA := PO.adr
  have MA := MO.adr
  rw [HFL.out] at MA
  have GA := GI.adr
  have SA := SO.adr
  rw [HZL.out] at SA
  have HPC := Lib.hid PO.cell
  have HMC := Lib.hid MO.cell
  have HGC := Lib.hid GI.cell
  have HSCC := Lib.hid SO.cell
  have HGIN := Lib.hid (gapInts_get (gapsOf xss))
  have HGAT := Lib.hid (fun k s (hk : k < xss.length) (hs : s < (xss.getD k []).length) (h : cel xss k s < 0) => gap_at hk hs h)
  have HGS := Lib.hid (gapsAt_succ xss)
  have HGZ := Lib.hid (gapsAt_zero xss)
  have HGT := Lib.hid (gapsTo_succ xss)
  have HGE : Hid (gapsTo xss xss.length = gapsOf xss) := rfl
  have HROW := Lib.hid (fun k (hk : k < xss.length) => HGP.out.row hk)
  have HGAL := Lib.hid (fun k s (hk : k < xss.length) (hs : s ≤ n) => gapsAt_len HGP.out hk hs)
  rw [HFL.out] at bm_1
  rw [HZL.out]
  generalize hG : gapsOf xss = G at HGC HGIN HGAT HGE GA SA hgl HZL ⊢
  have HDD : Hid (∀ k s, due xss zs k s = if cel xss k s < 0 then zs.getD (gapsAt xss k s).length 0 else cel xss k s) := fun _ _ => rfl
  clear PO MO GI SO op om oq oa oc od og os hG
  go_wp2
  go_loop [18, 19, 20, 21] (fun at1 i z20 z21 => ∃ k : Nat, k ≤ xss.length ∧ i = .int .i64 k ∧ at1 = .int .i64 ((gapsTo xss k).length : Nat)) (fun _ i _ _ => xss.length - (intOf i).toNat)
  case atStart => exact ⟨0, Nat.zero_le _, rfl, by simp [gapsTo]⟩
  case round =>
    obtain ⟨k, hk, rfl, rfl⟩ := hrel
    by_cases hlt : k < xss.length
    · have i1 := idx_of Tryz.underlying24 size1_ints (c := cp) PA hlt .i64
      have i2 := idx_of Tryz.underlying24 size1_ints (c := cm) MA hlt .i64
      obtain ⟨r1, d1, hr1⟩ := HPC.out k hlt
      obtain ⟨r2, d2, hr2⟩ := HMC.out k (by rw [HFL.out]; exact hlt)
      obtain ⟨ar, br, orr, cr, R1⟩ := hr1.open
      obtain ⟨am2, bm2, om2, cm2, R2⟩ := hr2.open
      have hv1 := R1.val
      have hv2 := R2.val
      subst hv1 hv2
      have A1 := R1.adr
      have A2 := R2.adr
      have hrl := HROW.out k hlt
      have hrl2 := HFR.out k
      rw [hrl] at hrl2 d1 A1
      rw [hrl2] at d2 A2
      have HC1 := Lib.hid (fun s (hs : s < n) => R1.cell s (by rw [hrl]; exact hs))
      have HC2 := Lib.hid (fun s (hs : s < n) => R2.cell s (by rw [hrl2]; exact hs))
      have HK0 := Lib.hid (HGZ.out k)
      have HKE : Hid (gapsAt xss k n = gapsTo xss (k + 1)) := by unfold Hid; rw [HGT.out k, hrl]
      have HRL := Lib.hid hrl
      have HATL := Lib.hid (fun s (hs : s ≤ n) => HGAL.out k s hlt hs)
      rw [← HK0.out]
      clear R1 R2 hr1 hr2 hrl hrl2
      go_wp2
      go_loop [18, 20, 21] (fun at1 i z21 => ∃ s : Nat, s ≤ n ∧ i = .int .i64 s ∧ at1 = .int .i64 ((gapsAt xss k s).length : Nat)) (fun _ i _ => n - (intOf i).toNat)
      case atStart => exact ⟨0, Nat.zero_le _, rfl, rfl⟩
      case round =>
        obtain ⟨s, hs, rfl, rfl⟩ := hrel
        by_cases hlts : s < n
        · have i3 := idx_of Tryz.underlying45 size1_int (c := cr) A1 hlts .i64
          have i4 := idx_of Tryz.underlying45 size1_int (c := cm2) A2 hlts .i64
          have e3 := HC1.out s hlts
          have e4 := HC2.out s hlts
          have hdu := HDU.out k s hlt hlts
          rw [HDD.out k s] at hdu
          have hsu := HGS.out k s
          have hal := HATL.out s hs
          have hgat := HGAT.out k s hlt (by rw [HRL.out]; exact hlts)
          change _ = some (Value.int .i64 (cel xss k s)) at e3
          change _ = some (Value.int .i64 (cel FT k s)) at e4
          obtain ⟨z, hz⟩ : ∃ z, z = cel xss k s := ⟨_, rfl⟩
          obtain ⟨q, hq⟩ : ∃ q : Nat, q = (gapsAt xss k s).length := ⟨_, rfl⟩
          rw [← hq, ← hz] at hdu
          rw [← hz] at e3 hgat hsu
          rw [← hq] at hgat hal
          rw [← hq]
          by_cases hzn : z < 0
          · rw [if_pos hzn] at hdu hsu
            obtain ⟨hqG, hGq⟩ := hgat hzn
            have i5 := idxG_of (c := cg) GA hqG .i64
            have i6 := idx_of Tryz.underlying45 size1_int (c := cz) SA (show q < G.length from hqG) .i64
            have e5 := HGC.out (q * 2) (by omega)
            have e6 := HGC.out (q * 2 + 1) (by omega)
            obtain ⟨h5, h6⟩ := HGIN.out q hqG
            rw [hGq] at h5 h6
            rw [h5] at e5
            rw [h6] at e6
            have e7 := HSCC.out q (by rw [HZL.out]; exact hqG)
            rw [hdu] at e4
            obtain ⟨zq, hzq⟩ : ∃ zq, zq = zs.getD q 0 := ⟨_, rfl⟩
            rw [← hzq] at e4 e7
            have hql : (gapsAt xss k (s + 1)).length = q + 1 := by rw [hsu, List.length_append, List.length_singleton, hq]
            have HQL := Lib.hid hql
            have t1 : (((k : Nat) : Int) != (k : Int)) = false := by simp
            have t2 : (((s : Nat) : Int) != (s : Int)) = false := by simp
            have t3 : (zq != zq) = false := by simp
            clear hdu hsu hgat hz hq hGq h5 h6 hzq hql
            go_wp2
            go_round
            case rel => exact ⟨s + 1, by omega, by go_num, by rw [HQL.out]; go_num⟩
            case measure => simp [intOf]; omega
          · rw [if_neg hzn] at hdu hsu
            rw [hdu] at e4
            have hql : (gapsAt xss k (s + 1)).length = q := by rw [hsu, List.append_nil, hq]
            have HQL := Lib.hid hql
            have t3 : (z != z) = false := by simp
            clear hdu hsu hgat hz hq hql
            go_wp2
            go_round
            case rel => exact ⟨s + 1, by omega, by go_num, by rw [HQL.out]⟩
            case measure => simp [intOf]; omega
        · obtain rfl : s = n := by omega
          rw [HKE.out]
          go_wp2
          go_round
          case rel => exact ⟨k + 1, by omega, by go_num, rfl⟩
          case measure => simp [intOf]; omega
    · obtain rfl : k = xss.length := by omega
      rw [HGE.out]
      have t9 : (((G.length : Nat) : Int) == (G.length : Int)) = true := by simp
      go_wp2
      go_ret
      exact ⟨rfl, bcum⟩
end Go.Proofs.YtfdacodbiodiaaaGreatDoor
