/- FnExactIsTotal's walk. -/
import Derived.Test.YtfenkhhfiomfeaaCube
import Derived.Test.YtfenkhhfiomfeaaIsTotal
import Derived.Deep.RegionHeld3
namespace Go.Proofs.Ytfenkhhfiomfeaa
set_option linter.unusedVariables false
set_option linter.unusedSimpArgs false
open Go.ChangeShapes Go.WideShapes Go.ChangeAt Go.RowKit

theorem walk_FnExactIsTotal (w : World) (st : Int) (v : Value) (xss : List (List (List Int))) (h : Rows3 w v xss) :
    Calls Try.prog 6 #[.agg #[.int .i64 st, v]] w fun e w' => e = .returned (.bool true) ∧ Below w.heap.size w w' := by
  obtain ⟨q, cd, htv⟩ : ∃ q cd, totalV st xss = .tuple #[.bool q, .int .i64 cd] := by unfold totalV; split <;> exact ⟨_, _, rfl⟩
  have nq : (q != q) = false := by simp
  have nc : (cd != cd) = false := by simp
  obtain ⟨ao, m, c, rfl, HM⟩ := h.shape
  have HS := Lib.hid (fun W (hb : Below w.heap.size w W) => szChoice_any st _ xss 1048576 W (h.kept hb) (by omega) (by omega))
  have b0 : Below w.heap.size w (w.alloc (.cells #[.int .i64 st, .slice ao m c] 33)) := below_alloc (Below.refl _ _) _
  go_enter Try.func6, Try.ntmps6
  go_wp2_with fail
  refine (HS.out _ b0).mono ?_
  rintro e w1 ⟨hb1, r, rfl, hr⟩
  have b1 := below_trans b0 hb1
  obtain ⟨hc1, hf1⟩ := bcell hb1
  have hz1 : w.heap.size < w1.heap.size := by have := hb1.size; simp at this; omega
  rcases hr with rfl | ⟨hr0, hr⟩
  · clear h
    go_wp2
    go_ret
    exact ⟨rfl, b1⟩
  · have hbulk : xss.length + bulk3 xss ≤ 1048576 := by omega
    have HT := Lib.hid (fun W (hb : Below w.heap.size w W) => toChoice_any st _ xss W (h.kept hb) hbulk)
    clear hr hbulk h
    go_wp2_with fail
    refine (HT.out _ b1).mono ?_
    rintro e w2 ⟨v2, rs2, rfl, ho2, hb2⟩
    have b2 := below_trans b1 hb2
    obtain ⟨hc2, hf2⟩ := bcell hb2
    have hz2 : w.heap.size < w2.heap.size := by have := hb2.size; omega
    go_wp2_with fail
    have HSP := specIsTotal_any st v2 xss w2 ho2.reads
    rw [htv] at HSP
    refine HSP.mono ?_
    rintro e w3 ⟨rfl, hb3⟩
    have b3 := below_trans b2 hb3
    obtain ⟨hc3, hf3⟩ := bcell hb3
    have hz3 : w.heap.size < w3.heap.size := by have := hb3.size; omega
    go_wp2_with fail
    refine (HT.out _ b3).mono ?_
    rintro e w4 ⟨v4, rs4, rfl, ho4, hb4⟩
    have b4 := below_trans b3 hb4
    obtain ⟨hc4, hf4⟩ := bcell hb4
    have hz4 : w.heap.size < w4.heap.size := by have := hb4.size; omega
    obtain ⟨ao4, m4, c4, rfl, HM4⟩ := own_shape ho4.outer
    have HV0 := fun W (hb : Below w4.heap.size w4 W) => isTotal_any st (.slice ao4 m4 c4) xss W (ho4.reads.kept hb)
    rw [htv] at HV0
    have HV := Lib.hid HV0
    clear HV0 HSP
    have b5 : Below w4.heap.size w4 (w4.alloc (.cells #[.int .i64 st, .slice ao4 m4 c4] 36)) := below_alloc (Below.refl _ _) _
    go_wp2_with fail
    refine (HV.out _ b5).mono ?_
    rintro e w6 ⟨rfl, hb6⟩
    have d0 : w6.cell? ⟨w4.heap.size, 0, none⟩ = some (.int .i64 st) := by rw [hb6.cell (by simp)]; go_simp
    have d1 : w6.cell? ⟨w4.heap.size, 1, none⟩ = some (.slice ao4 m4 c4) := by rw [hb6.cell (by simp)]; go_simp
    have B6 : Below (w.alloc (.cells #[.int .i64 st, .slice ao m c] 33)).heap.size (w.alloc (.cells #[.int .i64 st, .slice ao m c] 33)) w6 :=
      below_trans (below_trans (below_trans (below_trans hb1 hb2) (below_trans hb3 hb4)) b5) hb6
    have d2 : w6.cell? ⟨w.heap.size, 0, none⟩ = some (.int .i64 st) := by rw [B6.cell (by simp)]; go_simp
    have d3 : w6.cell? ⟨w.heap.size, 1, none⟩ = some (.slice ao m c) := by rw [B6.cell (by simp)]; go_simp
    have l0 := block_lt_of_cell d0
    have l2 := block_lt_of_cell d2
    have b6 := below_trans b0 B6
    have R4 := ho4.reads.kept (below_trans b5 hb6)
    have HE0 := fun W v7 (hb : Below w6.heap.size w6 W) (h7 : Rows3 W v7 xss) => eqChoice_any st st (.slice ao4 m4 c4) v7 xss xss W (R4.kept hb) h7
    rw [show decide (st = st ∧ xss = xss) = true by simp] at HE0
    have HE := Lib.hid HE0
    clear hc1 hf1 hc2 hf2 hc3 hf3 hc4 hf4 hb1 hb2 hb3 hb4 hb6 b1 b2 b3 b4 b5 B6 ho2 ho4 R4 HE0
    go_wp2
    go_region_held3 (fun w' => Below w6.heap.size w6 w' ∧ ∀ b o, b < w6.heap.size → w'.cell? ⟨b, o, none⟩ = w6.cell? ⟨b, o, none⟩) (first | exact held_start | assumption | exact held_next (by assumption) (by assumption))
      (first | (go_simp; go_at_call 20; refine (HT.out _ (below_trans b6 (And.left (by assumption)))).mono ?_; rintro e w7 ⟨v7, rs7, rfl, ho7, hb7⟩; obtain ⟨ao7, m7, c7, rfl, HM7⟩ := own_shape ho7.outer) | (go_simp; go_at_call 22; refine (HE.out _ _ (And.left (by assumption)) (OwnCube.reads (by assumption))).mono ?_; rintro e w8 ⟨rfl, hb8⟩))
    go_wp2
    go_ret
    exact ⟨rfl, below_trans b6 (And.left (by assumption))⟩

end Go.Proofs.Ytfenkhhfiomfeaa
