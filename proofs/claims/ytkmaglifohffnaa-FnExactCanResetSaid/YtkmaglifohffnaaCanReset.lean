/- CanReset of the reference and of the program. -/
import Derived.Test.YtkmaglifohffnaaShortest
namespace Go.Proofs.Ytkmaglifohffnaa
set_option linter.unusedVariables false
set_option linter.unusedSimpArgs false
open Go.ChangeShapes Go.WideShapes Go.ChangeAt Go.RowKit

def crOk (st : Int) (xss : List (List Int)) : Bool := if validB st xss = true then (firstT smallB (allTour st xss)).isSome else false
def crCd (st : Int) (xss : List (List Int)) : Int := if validB st xss = true then 0 else 1

set_option maxRecDepth 100000 in
set_option maxHeartbeats 4000000 in
theorem specCanReset_any (st : Int) (v : Value) (xss : List (List Int)) (w : World) (h1 : Rows2 w v xss) :
    Calls Try.prog 57 #[.agg #[.int .i64 st, v]] w (RetB (.tuple #[.bool (crOk st xss), .int .i64 (crCd st xss)]) w) := by
  obtain ⟨ao, m, c, rfl, HM⟩ := h1.shape
  obtain ⟨W1, hW1⟩ : ∃ W1, W1 = w.alloc (.cells #[.int .i64 st, .slice ao m c] 26) := ⟨_, rfl⟩
  have bx : Below w.heap.size w W1 := by rw [hW1]; exact below_alloc (Below.refl _ _) _
  have p0 : W1.cell? ⟨w.heap.size, 0, none⟩ = some (.int .i64 st) := by rw [hW1]; go_simp
  have p1 : W1.cell? ⟨w.heap.size, 1, none⟩ = some (.slice ao m c) := by rw [hW1]; go_simp
  have HOK := Lib.hid (l01Ok_any w.heap.size 0 st _ xss W1 p0 p1 (h1.kept bx))
  cases hv : validB st xss
  · rw [show crOk st xss = false by simp [crOk, hv], show crCd st xss = 1 by simp [crCd, hv]]
    rw [hv] at HOK
    subst hW1
    clear hv h1
    go_enter Try.func57, Try.ntmps57
    go_wp2_with fail
    refine HOK.out.mono ?_
    rintro e w2 ⟨rfl, hq⟩
    have hb := hq.below (w.alloc (.cells #[.int .i64 st, .slice ao m c] 26)).heap.size
    go_wp2
    go_ret2
    exact ⟨rfl, below_trans bx hb⟩
  · obtain ⟨n, hg⟩ := good_of hv
    rw [show crOk st xss = (firstT smallB (tourOf xss (2 ^ n - 1))).isSome by simp [crOk, hv, hg.allTour], show crCd st xss = 0 by simp [crCd, hv]]
    rw [hv] at HOK
    obtain rfl := hg.st
    have HFU := Lib.hid (fun W (hW : Below W1.heap.size W1 W) => l02Full_any w.heap.size n W (below_cell hW p0) hg.hi)
    have HSH := Lib.hid (fun W (hW : Below W1.heap.size W1 W) => l02Shrink_any w.heap.size n _ xss n (2 ^ n - 1) W (below_cell hW p0) (below_cell hW p1) ((h1.kept bx).kept hW) hg hg.full)
    generalize wordP smallB (tourOf xss (2 ^ n - 1)) = zs at HSH
    generalize (firstT smallB (tourOf xss (2 ^ n - 1))).isSome = ok at HSH
    generalize 2 ^ n - 1 = full at HFU HSH
    subst hW1
    clear hv h1 hg
    go_enter Try.func57, Try.ntmps57
    go_wp2_with fail
    refine HOK.out.mono ?_
    rintro e w2 ⟨rfl, hq⟩
    have hb := hq.below (w.alloc (.cells #[.int .i64 n, .slice ao m c] 26)).heap.size
    go_wp2_with fail
    refine (HFU.out _ hb).mono ?_
    rintro e w3 ⟨rfl, rfl⟩
    go_wp2_with fail
    refine (HSH.out _ hb).mono ?_
    rintro e w4 ⟨vz, rfl, ho, hb4⟩
    have hbb := below_trans bx (below_trans hb hb4)
    clear ho
    go_wp2
    go_ret2
    exact ⟨rfl, hbb⟩

set_option maxRecDepth 100000 in
set_option maxHeartbeats 4000000 in
theorem implCanReset_any (st : Int) (v : Value) (xss : List (List Int)) (w : World) (h1 : Rows2 w v xss) :
    Calls Try.prog 58 #[.agg #[.int .i64 st, v]] w (RetB (.tuple #[.bool (crOk st xss), .int .i64 (crCd st xss)]) w) := by
  have bx : Below w.heap.size w (w.alloc (.cells #[.int .i64 st, v] 26)) := below_alloc (Below.refl _ _) _
  have HSR := Lib.hid (implShortest_any st v xss _ (h1.kept bx))
  have hc : srCd st xss = 1 ∧ crOk st xss = false ∧ crCd st xss = 1 ∨ srCd st xss = 0 ∧ crOk st xss = true ∧ crCd st xss = 0 ∨ srCd st xss = 6 ∧ crOk st xss = false ∧ crCd st xss = 0 := by
    cases hv : validB st xss
    · left; simp [srCd, crOk, crCd, hv]
    · cases hf : (firstT smallB (allTour st xss)).isSome
      · right; right; refine ⟨?_, ?_, ?_⟩ <;> simp [srCd, crOk, crCd, hv, codeP_if, hf]
      · right; left; refine ⟨?_, ?_, ?_⟩ <;> simp [srCd, crOk, crCd, hv, codeP_if, hf]
  clear h1
  generalize srCd st xss = sc at HSR hc
  generalize crCd st xss = cc at hc ⊢
  generalize crOk st xss = co at hc ⊢
  generalize srZs st xss = zs at HSR
  rcases hc with ⟨rfl, rfl, rfl⟩ | ⟨rfl, rfl, rfl⟩ | ⟨rfl, rfl, rfl⟩
  all_goals
    go_enter Try.func58, Try.ntmps58
    go_wp2_with fail
    refine HSR.out.mono ?_
    rintro e w2 ⟨vz, rfl, ho, hb⟩
    clear ho
    go_wp2
    go_ret2
    exact ⟨rfl, below_trans bx hb⟩

end Go.Proofs.Ytkmaglifohffnaa
