/- PeriodOf, of the reference and of the program. -/
import Derived.Test.YtlgnbbfhejjodaaPeriod
import Derived.Test.YtlgnbbfhejjodaaPeriodSpec
import Derived.Test.YtlgnbbfhejjodaaConn
namespace Go.Proofs.Ytlgnbbfhejjodaa
set_option linter.unusedVariables false
set_option linter.unusedSimpArgs false
open Go.ChangeShapes Go.WideShapes Go.ChangeAt Go.RowKit

def pdOf (st : Int) (xss : List (List Int)) : Int := if validB st xss = true then (if joinedB xss st.toNat = true then (pdG xss st.toNat : Int) else 0) else 0
def pdCd (st : Int) (xss : List (List Int)) : Int := if validB st xss = true then (if joinedB xss st.toNat = true then 0 else 4) else 1
theorem joined_zero {xss : List (List Int)} {n : Nat} (hn : 0 < n) (h : joinedB xss n = true) : (rcZs xss 0).length = n := by
  unfold joinedB at h
  rw [List.all_eq_true] at h
  have := h 0 (List.mem_range.2 hn)
  simpa using this

set_option maxRecDepth 100000 in
set_option maxHeartbeats 4000000 in
theorem implPeriodOf_any (st : Int) (v : Value) (xss : List (List Int)) (w : World) (h1 : Rows2 w v xss) :
    Calls Try.prog 46 #[.agg #[.int .i64 st, v]] w (RetB (.tuple #[.int .i64 (pdOf st xss), .int .i64 (pdCd st xss)]) w) := by
  obtain ⟨ao, m, c, rfl, HM⟩ := h1.shape
  obtain ⟨W1, hW1⟩ : ∃ W1, W1 = w.alloc (.cells #[.int .i64 st, .slice ao m c] 28) := ⟨_, rfl⟩
  have bx : Below w.heap.size w W1 := by rw [hW1]; exact below_alloc (Below.refl _ _) _
  have p0 : W1.cell? ⟨w.heap.size, 0, none⟩ = some (.int .i64 st) := by rw [hW1]; go_simp
  have p1 : W1.cell? ⟨w.heap.size, 1, none⟩ = some (.slice ao m c) := by rw [hW1]; go_simp
  have HV := Lib.hid (validAuto_any st _ xss W1 (h1.kept bx))
  cases hv : validB st xss
  · rw [show pdOf st xss = 0 by simp [pdOf, hv], show pdCd st xss = 1 by simp [pdCd, hv]]
    rw [hv] at HV
    subst hW1
    clear hv h1
    go_enter Try.func46, Try.ntmps46
    go_wp2_with fail
    refine HV.out.mono ?_
    rintro e w2 ⟨rfl, hb⟩
    have hbb := below_trans bx hb
    go_wp2
    go_ret2
    exact ⟨rfl, hbb⟩
  · obtain ⟨n, hg⟩ := good_of hv
    obtain rfl := hg.st
    have hn1 := hg.lo
    rw [hv] at HV
    have HC := Lib.hid (fun W (hW : Below W1.heap.size W1 W) => isConn_any _ xss n W ((h1.kept bx).kept hW) hg)
    have HP := Lib.hid (fun hj W (hW : Below W1.heap.size W1 W) => period_any _ xss n W ((h1.kept bx).kept hW) hg hj)
    cases hj : joinedB xss n
    · rw [show pdOf n xss = 0 by simp [pdOf, hv, hj], show pdCd n xss = 4 by simp [pdCd, hv, hj]]
      rw [hj] at HC
      subst hW1
      clear hv h1 hg hj HP
      go_enter Try.func46, Try.ntmps46
      go_wp2_with fail
      refine HV.out.mono ?_
      rintro e w2 ⟨rfl, hb⟩
      have q0 := below_cell hb p0
      have q1 := below_cell hb p1
      have lq := block_lt_of_cell q0
      go_wp2_with fail
      refine (HC.out _ hb).mono ?_
      rintro e w3 ⟨rfl, hb3⟩
      have hbb := below_trans bx (below_trans hb hb3)
      go_wp2
      go_ret2
      exact ⟨rfl, hbb⟩
    · rw [show pdOf n xss = (pdG xss n : Int) by simp [pdOf, hv, hj], show pdCd n xss = 0 by simp [pdCd, hv, hj]]
      rw [hj] at HC
      have HP2 := Lib.hid (HP.out (joined_zero (by omega) hj))
      generalize pdG xss n = r at HP2 ⊢
      subst hW1
      clear hv h1 hg hj HP
      go_enter Try.func46, Try.ntmps46
      go_wp2_with fail
      refine HV.out.mono ?_
      rintro e w2 ⟨rfl, hb⟩
      have q0 := below_cell hb p0
      have q1 := below_cell hb p1
      have lq := block_lt_of_cell q0
      go_wp2_with fail
      refine (HC.out _ hb).mono ?_
      rintro e w3 ⟨rfl, hb3⟩
      have r0 := below_cell hb3 q0
      have r1 := below_cell hb3 q1
      have lr := block_lt_of_cell r0
      go_wp2_with fail
      refine (HP2.out _ (below_trans hb hb3)).mono ?_
      rintro e w4 ⟨rfl, hb4⟩
      have hbb := below_trans bx (below_trans hb (below_trans hb3 hb4))
      go_wp2
      go_ret2
      exact ⟨rfl, hbb⟩

set_option maxRecDepth 100000 in
set_option maxHeartbeats 4000000 in
theorem specPeriodOf_any (st : Int) (v : Value) (xss : List (List Int)) (w : World) (h1 : Rows2 w v xss) :
    Calls Try.prog 45 #[.agg #[.int .i64 st, v]] w (RetB (.tuple #[.int .i64 (pdOf st xss), .int .i64 (pdCd st xss)]) w) := by
  obtain ⟨ao, m, c, rfl, HM⟩ := h1.shape
  obtain ⟨W1, hW1⟩ : ∃ W1, W1 = w.alloc (.cells #[.int .i64 st, .slice ao m c] 28) := ⟨_, rfl⟩
  have bx : Below w.heap.size w W1 := by rw [hW1]; exact below_alloc (Below.refl _ _) _
  have p0 : W1.cell? ⟨w.heap.size, 0, none⟩ = some (.int .i64 st) := by rw [hW1]; go_simp
  have p1 : W1.cell? ⟨w.heap.size, 1, none⟩ = some (.slice ao m c) := by rw [hW1]; go_simp
  have HOK := Lib.hid (l01Ok_any w.heap.size 0 st _ xss W1 p0 p1 (h1.kept bx))
  cases hv : validB st xss
  · rw [show pdOf st xss = 0 by simp [pdOf, hv], show pdCd st xss = 1 by simp [pdCd, hv]]
    rw [hv] at HOK
    subst hW1
    clear hv h1
    go_enter Try.func45, Try.ntmps45
    go_wp2_with fail
    refine HOK.out.mono ?_
    rintro e w2 ⟨rfl, hq⟩
    have hbb := below_trans bx (hq.below (w.alloc (.cells #[.int .i64 st, .slice ao m c] 28)).heap.size)
    go_wp2
    go_ret2
    exact ⟨rfl, hbb⟩
  · obtain ⟨n, hg⟩ := good_of hv
    obtain rfl := hg.st
    have hn1 := hg.lo
    rw [hv] at HOK
    have HC := Lib.hid (fun W (hW : Below W1.heap.size W1 W) => l01Joined_any w.heap.size _ xss n W (below_cell hW p0) (below_cell hW p1) ((h1.kept bx).kept hW) hg)
    have HP := Lib.hid (fun hj W (hW : Below W1.heap.size W1 W) => l01Period_any w.heap.size _ xss n W (below_cell hW p0) (below_cell hW p1) ((h1.kept bx).kept hW) hg hj)
    cases hj : joinedB xss n
    · rw [show pdOf n xss = 0 by simp [pdOf, hv, hj], show pdCd n xss = 4 by simp [pdCd, hv, hj]]
      rw [hj] at HC
      subst hW1
      clear hv h1 hg hj HP
      go_enter Try.func45, Try.ntmps45
      go_wp2_with fail
      refine HOK.out.mono ?_
      rintro e w2 ⟨rfl, hq⟩
      have hb := hq.below (w.alloc (.cells #[.int .i64 n, .slice ao m c] 28)).heap.size
      go_wp2_with fail
      refine (HC.out _ hb).mono ?_
      rintro e w3 ⟨rfl, hb3⟩
      have hbb := below_trans bx (below_trans hb hb3)
      go_wp2
      go_ret2
      exact ⟨rfl, hbb⟩
    · rw [show pdOf n xss = (pdG xss n : Int) by simp [pdOf, hv, hj], show pdCd n xss = 0 by simp [pdCd, hv, hj]]
      rw [hj] at HC
      have HP2 := Lib.hid (HP.out (joined_zero (by omega) hj))
      generalize pdG xss n = r at HP2 ⊢
      subst hW1
      clear hv h1 hg hj HP
      go_enter Try.func45, Try.ntmps45
      go_wp2_with fail
      refine HOK.out.mono ?_
      rintro e w2 ⟨rfl, hq⟩
      have hb := hq.below (w.alloc (.cells #[.int .i64 n, .slice ao m c] 28)).heap.size
      go_wp2_with fail
      refine (HC.out _ hb).mono ?_
      rintro e w3 ⟨rfl, hb3⟩
      go_wp2_with fail
      refine (HP2.out _ (below_trans hb hb3)).mono ?_
      rintro e w4 ⟨rfl, hb4⟩
      have hbb := below_trans bx (below_trans hb (below_trans hb3 hb4))
      go_wp2
      go_ret2
      exact ⟨rfl, hbb⟩

end Go.Proofs.Ytlgnbbfhejjodaa
