/- FnExactSlowAutomaton's walk. -/
import Derived.Test.YtbelpdaolcjcmaaSlow
import Derived.Test.YtbelpdaolcjcmaaAuto
namespace Go.Proofs.Ytbelpdaolcjcmaa
set_option linter.unusedVariables false
set_option linter.unusedSimpArgs false
open Go.ChangeShapes Go.WideShapes Go.ChangeAt Go.RowKit

theorem slowRows_bulk (n : Int) : bulk2 (slowRows n) ≤ 20 := by
  unfold slowRows
  split
  · rename_i h
    have := inB_true.1 h
    simp [bulk2, slowTurn, slowStay]
    omega
  · simp [bulk2]

set_option maxHeartbeats 1000000 in
theorem walk_FnExactSlowAutomaton (w : World) (n : Int) :
    Calls Try.prog 8 #[.int .i64 n] w fun e w' => e = .returned (.bool true) ∧ Below w.heap.size w w' := by
  have hbk := slowRows_bulk n
  have HS := Lib.hid (fun W => specSlow_any n W)
  have HI := Lib.hid (fun W => implSlow_any n W)
  generalize slowRows n = xss at HS HI hbk
  generalize slowSt n = st at HS HI
  generalize slowCd n = cd at HS HI
  have hcd : (cd != cd) = false := by simp
  go_enter Try.func8, Try.ntmps8
  go_wp2_with fail
  refine (HS.out _).mono ?_
  rintro e w1 ⟨v0, rs0, rfl, ho0, hb1⟩
  obtain ⟨a0, m0, c0, rfl, HM0⟩ := own_shape ho0.outer
  have bx1 : Below w1.heap.size w1 (w1.alloc (.cells #[.int .i64 st, .slice a0 m0 c0] 38)) := below_alloc (Below.refl _ _) _
  have p0 : (w1.alloc (.cells #[.int .i64 st, .slice a0 m0 c0] 38)).cell? ⟨w1.heap.size, 0, none⟩ = some (.int .i64 st) := by go_simp
  have p1 : (w1.alloc (.cells #[.int .i64 st, .slice a0 m0 c0] 38)).cell? ⟨w1.heap.size, 1, none⟩ = some (.slice a0 m0 c0) := by go_simp
  go_wp2_with fail
  refine (HI.out _).mono ?_
  rintro e w2 ⟨g0, rs2, rfl, hg0, hb2⟩
  obtain ⟨a2, m2, c2, rfl, HM2⟩ := own_shape hg0.outer
  replace p0 := below_cell hb2 p0
  replace p1 := below_cell hb2 p1
  have l1 := block_lt_of_cell p0
  have b2 := below_trans hb1 (below_trans bx1 hb2)
  have bx2 : Below w2.heap.size w2 (w2.alloc (.cells #[.int .i64 st, .slice a2 m2 c2] 38)) := below_alloc (Below.refl _ _) _
  have q0 : (w2.alloc (.cells #[.int .i64 st, .slice a2 m2 c2] 38)).cell? ⟨w2.heap.size, 0, none⟩ = some (.int .i64 st) := by go_simp
  have q1 : (w2.alloc (.cells #[.int .i64 st, .slice a2 m2 c2] 38)).cell? ⟨w2.heap.size, 1, none⟩ = some (.slice a2 m2 c2) := by go_simp
  have ho2 := (ho0.below bx1).below hb2
  have HE := Lib.hid (eqAuto_yes st (.slice a2 m2 c2) (.slice a0 m0 c0) xss _ (hg0.reads.kept bx2) (ho2.reads.kept bx2))
  go_wp2_with fail
  refine HE.out.mono ?_
  rintro e w3 ⟨rfl, hb3⟩
  have B3 := below_trans bx2 hb3
  have p0' := below_cell B3 p0
  have p1' := below_cell B3 p1
  replace q0 := below_cell hb3 q0
  replace q1 := below_cell hb3 q1
  have hin := hg0.within
  have hg3 := hg0.below B3
  have b3 := below_trans b2 B3
  have hmk := Lib.hid (markAuto_any st (.slice a2 m2 c2) _ w2.heap.size rs2 xss 1 w3 hg3 hin B3.size (by omega) (by omega))
  clear p0 p1 HE
  go_wp2_with fail
  refine hmk.out.mono ?_
  rintro e w4 ⟨rfl, hg4, hch⟩
  have hlo : w1.heap.size < (w1.alloc (.cells #[.int .i64 st, .slice a0 m0 c0] 38)).heap.size := by simp
  replace p0' := hch.cell p0' (.inl hlo)
  replace p1' := hch.cell p1' (.inl hlo)
  replace q0 := hch.cell q0 (.inr (Nat.le_refl _))
  replace q1 := hch.cell q1 (.inr (Nat.le_refl _))
  have ho4 := (ho2.below B3).chg ho0.within hch (.inl bx1.size)
  have b4 : Below w.heap.size w w4 := b3.trans ((hch.below (by have := B3.size; have := hb2.size; omega)).mono (by have := hb1.size; have := bx1.size; omega))
  have hH := Lib.hid (fun W (hW : Below w4.heap.size w4 W) => heldAuto_any st (.slice a2 m2 c2) (numRows 1 xss) xss 1 W (hg4.reads.kept hW) (by omega) (by omega) rfl)
  have hneq : ((1 + (bulk2 xss : Int)) != 1 + bulk2 xss) = false := by simp
  clear hmk hlo hch
  go_wp2_with fail
  refine (hH.out w4 (Below.refl _ _)).mono ?_
  rintro e w5 ⟨rfl, hb5⟩
  replace p0' := below_cell hb5 p0'
  replace p1' := below_cell hb5 p1'
  replace q0 := below_cell hb5 q0
  replace q1 := below_cell hb5 q1
  have l1' := block_lt_of_cell p0'
  have l2' := block_lt_of_cell q0
  go_wp2_with fail
  refine (HI.out _).mono ?_
  rintro e w6 ⟨h0, rs6, rfl, hh6, hb6⟩
  obtain ⟨a6, m6, c6, rfl, HM6⟩ := own_shape hh6.outer
  replace p0' := below_cell hb6 p0'
  replace p1' := below_cell hb6 p1'
  replace q0 := below_cell hb6 q0
  replace q1 := below_cell hb6 q1
  have l1'' := block_lt_of_cell p0'
  have l2'' := block_lt_of_cell q0
  have bx6 : Below w6.heap.size w6 (w6.alloc (.cells #[.int .i64 st, .slice a6 m6 c6] 38)) := below_alloc (Below.refl _ _) _
  have B6 := below_trans hb5 hb6
  have HE2 := Lib.hid (eqAuto_yes st (.slice a6 m6 c6) (.slice a0 m0 c0) xss _ (hh6.reads.kept bx6) ((ho4.reads.kept B6).kept bx6))
  go_wp2_with fail
  refine HE2.out.mono ?_
  rintro e w7 ⟨rfl, hb7⟩
  have B7 := below_trans bx6 hb7
  replace q0 := below_cell B7 q0
  replace q1 := below_cell B7 q1
  go_wp2_with fail
  refine (hH.out w7 (below_trans B6 B7)).mono ?_
  rintro e w8 ⟨rfl, hb8⟩
  go_wp2
  go_ret
  exact ⟨rfl, below_trans b4 (below_trans (below_trans B6 B7) hb8)⟩

end Go.Proofs.Ytbelpdaolcjcmaa
