/- IsFullyReached of the reference and of the program. -/
import Derived.Test.YtkmaglifohffnaaRank
import Derived.Deep.RegionWith
namespace Go.Proofs.Ytkmaglifohffnaa
set_option linter.unusedVariables false
set_option linter.unusedSimpArgs false
open Go.ChangeShapes Go.WideShapes Go.ChangeAt Go.RowKit

def fullOk (st : Int) (xss : List (List Int)) : Bool := if validB st xss = true then ((allTour st xss).length == 2 ^ st.toNat - 1) else false

set_option maxRecDepth 100000 in
set_option maxHeartbeats 4000000 in
theorem implFull_any (st : Int) (v : Value) (xss : List (List Int)) (w : World) (h1 : Rows2 w v xss) :
    Calls Try.prog 37 #[.agg #[.int .i64 st, v]] w (RetB (.tuple #[.bool (fullOk st xss), .int .i64 (rkCd st xss)]) w) := by
  obtain ⟨ao, m, c, rfl, HM⟩ := h1.shape
  obtain ⟨W1, hW1⟩ : ∃ W1, W1 = w.alloc (.cells #[.int .i64 st, .slice ao m c] 26) := ⟨_, rfl⟩
  have bx : Below w.heap.size w W1 := by rw [hW1]; exact below_alloc (Below.refl _ _) _
  have p0 : W1.cell? ⟨w.heap.size, 0, none⟩ = some (.int .i64 st) := by rw [hW1]; go_simp
  have p1 : W1.cell? ⟨w.heap.size, 1, none⟩ = some (.slice ao m c) := by rw [hW1]; go_simp
  have HOK := Lib.hid (validAuto_any st _ xss W1 (h1.kept bx))
  cases hv : validB st xss
  · rw [show fullOk st xss = false by simp [fullOk, hv], show rkCd st xss = 1 by simp [rkCd, hv]]
    rw [hv] at HOK
    subst hW1
    clear hv h1
    go_enter Try.func37, Try.ntmps37
    go_wp2_with fail
    refine HOK.out.mono ?_
    rintro e w2 ⟨rfl, hb⟩
    go_wp2
    go_ret2
    exact ⟨rfl, below_trans bx hb⟩
  · obtain ⟨n, hg⟩ := good_of hv
    rw [show fullOk st xss = ((tourOf xss (2 ^ n - 1)).length == 2 ^ n - 1) by unfold fullOk; rw [if_pos hv, hg.allTour, show st.toNat = n by have := hg.st; omega], show rkCd st xss = 0 by simp [rkCd, hv]]
    rw [hv] at HOK
    have hn10 := hg.hi
    obtain rfl := hg.st
    have HAL := Lib.hid (fun W => autoAll_any n n m c ao W rfl hn10)
    have HFO := Lib.hid (fun (u : Value) W (hi : Ints W u ((List.range n).map fun (s : Nat) => (s : Int))) => flockOf_any u _ W hi (range_in hn10))
    rw [full_bits] at HFO
    have HTR := Lib.hid (fun W (hW : Below w.heap.size w W) => tour_any n _ xss n (2 ^ n - 1) W (h1.kept hW) hg hg.full)
    generalize tourOf xss (2 ^ n - 1) = T at HTR ⊢
    have hfu := Lib.hid (full_w64 (n := n) (by omega))
    have hps := Lib.hid (Nat.two_pow_pos n)
    have hpl := Lib.hid (pow_small (n := n) (by omega))
    generalize 2 ^ n - 1 = full at HFO HTR hfu ⊢
    subst hW1
    clear hv h1 hg
    go_enter Try.func37, Try.ntmps37
    go_wp2_with fail
    refine HOK.out.mono ?_
    rintro e w2 ⟨rfl, hb⟩
    replace p0 := below_cell hb p0
    replace p1 := below_cell hb p1
    have bw2 := below_trans bx hb
    have HST0 := Lib.hid (held3_start (w0 := w) bw2 p0 p1)
    have hfd := field_tour0
    go_wp2
    go_region_held3 (fun w' => Below w.heap.size w w' ∧ w'.cell? ⟨w.heap.size, 0, none⟩ = some (.int .i64 n) ∧ w'.cell? ⟨w.heap.size, 1, none⟩ = some (.slice ao m c)) (first | exact HST0.out | assumption | exact held3_next (by assumption) (by assumption))
      (first
        | (go_simp; go_at_call 87; refine (HAL.out _).mono ?_; rintro e w3 ⟨v3, rfl, ho3, hb3⟩; obtain ⟨a3, m3, c3, rfl, HM3⟩ := own_shape ho3)
        | (go_simp; go_at_call 77; refine (HFO.out _ _ (ints_of_own ho3)).mono ?_; rintro e w4 ⟨rfl, rfl⟩)
        | (go_simp; go_at_call 86; refine (HTR.out _ (And.left (by assumption))).mono ?_; rintro e w5 ⟨lv, mb, rfl, hol, hwm, hb5⟩; obtain ⟨a5, m5, c5, rfl, HM5⟩ := own_shape hol))
    rename Below w.heap.size w w5 ∧ _ => hS
    obtain ⟨hw5, hcs⟩ := hS
    have hm5 : m5 = T.length := by have := HM5.out; rwa [Tour.sets_len] at this
    clear hcs hol hwm
    subst hm5
    rw [← wrap64_i64, ← wrap64_i64, hfu.out]
    go_wp2
    go_ret2
    refine ⟨?_, hw5⟩
    rw [show ((T.length : Int) == (full : Int)) = (T.length == full) by rw [Bool.eq_iff_iff, beq_iff_eq, beq_iff_eq]; omega]
    rfl

set_option maxRecDepth 100000 in
set_option maxHeartbeats 4000000 in
theorem specFull_any (st : Int) (v : Value) (xss : List (List Int)) (w : World) (h1 : Rows2 w v xss) :
    Calls Try.prog 36 #[.agg #[.int .i64 st, v]] w (RetB (.tuple #[.bool (fullOk st xss), .int .i64 (rkCd st xss)]) w) := by
  obtain ⟨ao, m, c, rfl, HM⟩ := h1.shape
  obtain ⟨W1, hW1⟩ : ∃ W1, W1 = w.alloc (.cells #[.int .i64 st, .slice ao m c] 26) := ⟨_, rfl⟩
  have bx : Below w.heap.size w W1 := by rw [hW1]; exact below_alloc (Below.refl _ _) _
  have p0 : W1.cell? ⟨w.heap.size, 0, none⟩ = some (.int .i64 st) := by rw [hW1]; go_simp
  have p1 : W1.cell? ⟨w.heap.size, 1, none⟩ = some (.slice ao m c) := by rw [hW1]; go_simp
  have HOK := Lib.hid (l01Ok_any w.heap.size 0 st _ xss W1 p0 p1 (h1.kept bx))
  cases hv : validB st xss
  · rw [show fullOk st xss = false by simp [fullOk, hv], show rkCd st xss = 1 by simp [rkCd, hv]]
    rw [hv] at HOK
    subst hW1
    clear hv h1
    go_enter Try.func36, Try.ntmps36
    go_wp2_with fail
    refine HOK.out.mono ?_
    rintro e w2 ⟨rfl, hq⟩
    have hb := hq.below (w.alloc (.cells #[.int .i64 st, .slice ao m c] 26)).heap.size
    go_wp2
    go_ret2
    exact ⟨rfl, below_trans bx hb⟩
  · obtain ⟨n, hg⟩ := good_of hv
    rw [show fullOk st xss = ((tourOf xss (2 ^ n - 1)).length == 2 ^ n - 1) by unfold fullOk; rw [if_pos hv, hg.allTour, show st.toNat = n by have := hg.st; omega], show rkCd st xss = 0 by simp [rkCd, hv]]
    rw [hv] at HOK
    obtain rfl := hg.st
    have HFU := Lib.hid (fun W (hW : Below W1.heap.size W1 W) => l02Full_any w.heap.size n W (below_cell hW p0) hg.hi)
    have HFR := Lib.hid (fun W (hW : Below W1.heap.size W1 W) => l02From_any w.heap.size n _ xss n (2 ^ n - 1) W (below_cell hW p0) (below_cell hW p1) ((h1.kept bx).kept hW) hg hg.full)
    have hp := outerT_pos xss (2 ^ n - 1) 1024
    have hlen := hg.tour.len10 hg.hi
    change 0 < (tourOf xss (2 ^ n - 1)).length at hp
    generalize tourOf xss (2 ^ n - 1) = T at HFR hp hlen ⊢
    generalize 2 ^ n - 1 = full at HFU HFR ⊢
    subst hW1
    clear hv h1 hg
    go_enter Try.func36, Try.ntmps36
    go_wp2_with fail
    refine HOK.out.mono ?_
    rintro e w2 ⟨rfl, hq⟩
    have hb := hq.below (w.alloc (.cells #[.int .i64 n, .slice ao m c] 26)).heap.size
    go_wp2
    have hb0 : Below (w.alloc (.cells #[.int .i64 n, .slice ao m c] 26)).heap.size (w.alloc (.cells #[.int .i64 n, .slice ao m c] 26)) w2.drew := hb.drew
    go_region_with
      (first
        | (go_at_call 85; (with_reducible refine (HFU.out _ (by assumption)).mono ?_); rintro e w3 ⟨rfl, rfl⟩)
        | (go_at_call 84; (with_reducible refine (HFR.out _ (by assumption)).mono ?_); rintro e w4 ⟨tb, s, bv, l, bs, ls, rfl, hw, hb4⟩; obtain ⟨sg, sc, rfl, hsc⟩ := own_some hw.hs hp; have t0 : w4.cell? ⟨tb, 0, none⟩ = some (.slice (some ⟨sg, 0, none⟩) T.length sc) := (by have := hw.st.cellAt 0 (by omega); simpa using this); have hb5 := below_trans hb0 hb4; clear hb4))
    all_goals
      have hbb := below_trans bx hb5
      clear hw
      go_wp2
      go_ret2
      refine ⟨?_, hbb⟩
      rw [show ((T.length : Int) == (full : Int)) = (T.length == full) by rw [Bool.eq_iff_iff, beq_iff_eq, beq_iff_eq]; omega]
      rfl

end Go.Proofs.Ytkmaglifohffnaa
