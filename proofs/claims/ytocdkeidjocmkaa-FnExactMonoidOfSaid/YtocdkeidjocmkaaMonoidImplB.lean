/- MonoidOf of the program: the whole. -/
import Derived.Test.YtocdkeidjocmkaaMonoidImpl
namespace Go.Proofs.Ytocdkeidjocmkaa
set_option linter.unusedVariables false
set_option linter.unusedSimpArgs false
open Go.ChangeShapes Go.WideShapes Go.ChangeAt Go.RowKit

set_option maxRecDepth 100000 in
set_option maxHeartbeats 4000000 in
theorem implMonoid_any (st : Int) (v : Value) (xss : List (List Int)) (w : World) (h1 : Rows2 w v xss) :
    Calls Try.prog 27 #[.agg #[.int .i64 st, v]] w (NewRows2 (moZs st xss) (moCd st xss) w) := by
  obtain ⟨ao, m, c, rfl, HM⟩ := h1.shape
  obtain ⟨W1, hW1⟩ : ∃ W1, W1 = w.alloc (.cells #[.int .i64 st, .slice ao m c] 44) := ⟨_, rfl⟩
  have bx : Below w.heap.size w W1 := by rw [hW1]; exact below_alloc (Below.refl _ _) _
  have p0 : W1.cell? ⟨w.heap.size, 0, none⟩ = some (.int .i64 st) := by rw [hW1]; go_simp
  have p1 : W1.cell? ⟨w.heap.size, 1, none⟩ = some (.slice ao m c) := by rw [hW1]; go_simp
  have HOK := Lib.hid (validAuto_any st _ xss W1 (h1.kept bx))
  cases hv : validB st xss
  · rw [show moZs st xss = [] by simp [moZs, hv], show moCd st xss = 1 by simp [moCd, hv]]
    rw [hv] at HOK
    subst hW1
    clear hv h1
    go_enter Try.func27, Try.ntmps27
    go_wp2_with fail
    refine HOK.out.mono ?_
    rintro e w2 ⟨rfl, hb⟩
    go_wp2
    go_ret2
    exact ⟨_, [], rfl, ownRows_nil _ _, below_trans bx hb⟩
  · obtain ⟨n, hg⟩ := good_of hv
    have hz : moZs st xss = if (monT xss n).length ≤ 400 then (monT xss n).keys else [] := by unfold moZs; rw [if_pos hv, show st.toNat = n by have := hg.st; omega]
    have hc : moCd st xss = if (monT xss n).length ≤ 400 then 0 else 3 := by unfold moCd; rw [if_pos hv, show st.toNat = n by have := hg.st; omega]
    rw [hv] at HOK
    have HSH := Lib.hid (fun W (hW : Below w.heap.size w W) => monoid_any st _ xss n W (h1.kept hW) hg)
    generalize monT xss n = M at HSH hz hc
    by_cases hl : M.length ≤ 400
    · rw [hz, hc, if_pos hl, if_pos hl]
      have hd : decide (M.length ≤ 400) = true := decide_eq_true hl
      have HL := Lib.hid hl
      have HD := Lib.hid hd
      subst hW1
      clear hv h1 hg hl hz hc hd
      go_enter Try.func27, Try.ntmps27
      go_wp2_with fail
      refine HOK.out.mono ?_
      rintro e w2 ⟨rfl, hb⟩
      replace p0 := below_cell hb p0
      replace p1 := below_cell hb p1
      have bw2 := below_trans bx hb
      have hz2 := block_lt_of_cell p0
      go_wp2_with fail
      refine (HSH.out _ bw2).mono ?_
      rintro e w4 ⟨v4, v5, rfl, hok, hb4⟩
      rw [HD.out]
      obtain ⟨rs, ho⟩ := hok HL.out
      obtain ⟨a4, m4, c4, rfl, HM4⟩ := own_shape ho.outer
      have HO := Lib.hid ho
      have hbb := below_trans bw2 hb4
      have hlo := bw2.size
      clear ho hok
      go_wp2
      go_ret2
      exact ⟨_, rs, rfl, HO.out.mono hlo, hbb⟩
    · rw [hz, hc, if_neg hl, if_neg hl]
      have hd : decide (M.length ≤ 400) = false := decide_eq_false hl
      have HD := Lib.hid hd
      subst hW1
      clear hv h1 hg hl hz hc hd
      go_enter Try.func27, Try.ntmps27
      go_wp2_with fail
      refine HOK.out.mono ?_
      rintro e w2 ⟨rfl, hb⟩
      replace p0 := below_cell hb p0
      replace p1 := below_cell hb p1
      have bw2 := below_trans bx hb
      have hz2 := block_lt_of_cell p0
      go_wp2_with fail
      refine (HSH.out _ bw2).mono ?_
      rintro e w4 ⟨v4, v5, rfl, hok, hb4⟩
      rw [HD.out]
      have hbb := below_trans bw2 hb4
      clear hok
      go_wp2
      go_ret2
      exact ⟨_, [], rfl, ownRows_nil _ _, hbb⟩

end Go.Proofs.Ytocdkeidjocmkaa
