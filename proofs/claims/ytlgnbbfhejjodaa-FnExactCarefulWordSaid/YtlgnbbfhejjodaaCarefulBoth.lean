/- CarefulWord of the reference. -/
import Derived.Test.YtlgnbbfhejjodaaCarefulSpec
import Derived.Test.YtlgnbbfhejjodaaCarefulImpl
namespace Go.Proofs.Ytlgnbbfhejjodaa
set_option linter.unusedVariables false
set_option linter.unusedSimpArgs false
open Go.ChangeShapes Go.WideShapes Go.ChangeAt Go.RowKit

set_option maxRecDepth 100000 in
set_option maxHeartbeats 4000000 in
theorem specCareful_any (st : Int) (v : Value) (xss : List (List Int)) (w : World) (h1 : Rows2 w v xss) :
    Calls Try.prog 50 #[.agg #[.int .i64 st, v]] w (NewInts2 (cwZs st xss) (cwCd st xss) w) := by
  obtain ⟨ao, m, c, rfl, HM⟩ := h1.shape
  obtain ⟨W1, hW1⟩ : ∃ W1, W1 = w.alloc (.cells #[.int .i64 st, .slice ao m c] 58) := ⟨_, rfl⟩
  have bx : Below w.heap.size w W1 := by rw [hW1]; exact below_alloc (Below.refl _ _) _
  have p0 : W1.cell? ⟨w.heap.size, 0, none⟩ = some (.int .i64 st) := by rw [hW1]; go_simp
  have p1 : W1.cell? ⟨w.heap.size, 1, none⟩ = some (.slice ao m c) := by rw [hW1]; go_simp
  have HOK := Lib.hid (l04Ok_any w.heap.size 0 st _ xss W1 p0 p1 (h1.kept bx))
  cases hv : validP st xss
  · rw [show cwZs st xss = [] by simp [cwZs, hv], show cwCd st xss = 1 by simp [cwCd, hv]]
    rw [hv] at HOK
    subst hW1
    clear hv h1
    go_enter Try.func50, Try.ntmps50
    go_wp2_with fail
    refine HOK.out.mono ?_
    rintro e w2 ⟨rfl, hq⟩
    have hb := hq.below (w.alloc (.cells #[.int .i64 st, .slice ao m c] 58)).heap.size
    have HE := Lib.hid (own_empty w2 w.heap.size (by have := hb.size; simp at this; omega) 2)
    go_wp2
    go_ret2
    exact ⟨_, rfl, HE.out, below_trans bx (below_trans hb (below_alloc (Below.refl _ _) _))⟩
  · obtain ⟨n, hg⟩ := goodQ_of hv
    rw [show cwZs st xss = wordP smallB (tourP xss (2 ^ n - 1)) by unfold cwZs cwT; rw [if_pos hv, show st.toNat = n by have := hg.st; omega], show cwCd st xss = codeP smallB (tourP xss (2 ^ n - 1)) by unfold cwCd cwT; rw [if_pos hv, show st.toNat = n by have := hg.st; omega]]
    rw [hv] at HOK
    obtain rfl := hg.st
    have HSH := Lib.hid (fun W (hW : Below W1.heap.size W1 W) => l04Careful_any w.heap.size n _ xss n W (below_cell hW p0) (below_cell hW p1) ((h1.kept bx).kept hW) hg)
    have hwn := fun h => wordP_none (p := smallB) (T := tourP xss (2 ^ n - 1)) h
    rw [codeP_if]
    generalize wordP smallB (tourP xss (2 ^ n - 1)) = zs at HSH hwn
    generalize (firstT smallB (tourP xss (2 ^ n - 1))).isSome = ok at HSH hwn
    have HTD := Lib.hid (fun (vz : Value) lo w => l02Told_any vz zs ok lo w hwn)
    generalize (if ok = true then (0 : Int) else 6) = cd at HTD ⊢
    have e1 : W1.heap.size = w.heap.size + 1 := by rw [hW1]; simp
    have E1 := Lib.hid e1
    subst hW1
    clear hv h1 hg hwn e1
    go_enter Try.func50, Try.ntmps50
    go_wp2_with fail
    refine HOK.out.mono ?_
    rintro e w2 ⟨rfl, hq⟩
    have hb := hq.below (w.alloc (.cells #[.int .i64 n, .slice ao m c] 58)).heap.size
    go_wp2_with fail
    refine (HSH.out _ hb).mono ?_
    rintro e w4 ⟨vz, rfl, ho, hb4⟩
    have hsz := hb.size
    have hsz4 := hb4.size
    have HTO := Lib.hid (HTD.out vz w.heap.size w4 (own_lo ho (by rw [E1.out] at hsz; omega)) (by rw [E1.out] at hsz; omega))
    clear ho
    go_wp2_with fail
    refine HTO.out.mono ?_
    rintro e w5 ⟨vt, rfl, hot, hb5⟩
    have HOT := Lib.hid hot
    have hbb := below_trans bx (below_trans hb (below_trans hb4 hb5))
    clear hot
    go_wp2
    go_ret2
    exact ⟨_, rfl, HOT.out, hbb⟩


end Go.Proofs.Ytlgnbbfhejjodaa
