/- The laws' helpers at a struct of a number and rows: toAutomaton, eqAutomaton, szAutomaton, markAutomaton, heldAutomaton. One contract each. -/
import Derived.Test.YtfdacodbiodiaaaDoorHelp2
namespace Go.Proofs.YtfdacodbiodiaaaDoor
set_option linter.unusedVariables false
set_option linter.unusedSimpArgs false
open Go.ChangeShapes Go.WideShapes Go.ChangeAt Go.RowKit



/-- it returns v; nothing that was there has changed -/
theorem eqAuto_any (s1 s2 : Int) (v1 v2 : Value) (xs ys : List (List Int)) (w : World) (h1 : Rows2 w v1 xs) (h2 : Rows2 w v2 ys) :
    Calls Tryd.prog 18 #[.agg #[.int .i64 s1, v1], .agg #[.int .i64 s2, v2]] w (RetB (.bool (decide (s1 = s2 ∧ xs = ys))) w) := by
  obtain ⟨ao1, m1, c1, rfl, HM1⟩ := h1.shape
  obtain ⟨ao2, m2, c2, rfl, HM2⟩ := h2.shape
  by_cases hs : s1 = s2
  · have hb : (s1 != s2) = false := by simp [hs]
    by_cases hx : xs = ys
    · have HC := fun W (hb : Below w.heap.size w W) => eqRows_any _ _ xs ys W (h1.kept hb) (h2.kept hb)
      rw [decide_eq_true hx] at HC
      have HH := Lib.hid HC
      have HS := Lib.hid hs
      have HX := Lib.hid hx
      clear h1 h2 HC hs hx
      go_enter Tryd.func18, Tryd.ntmps18
      go_wp2_with fail
      refine (HH.out _ ?_).mono ?_
      · repeat (first | exact Below.refl _ _ | refine below_alloc ?_ _ | refine below_drewN' ?_ _)
      rintro e w2 ⟨rfl, hq⟩
      have hbel : Below w.heap.size w w2 := below_trans (by repeat (first | exact Below.refl _ _ | refine below_alloc ?_ _)) (hq.below _)
      go_wp2
      go_ret
      exact ⟨ret_bool (decide_eq_true ⟨HS.out, HX.out⟩).symm, hbel⟩
    · have HC := fun W (hb : Below w.heap.size w W) => eqRows_any _ _ xs ys W (h1.kept hb) (h2.kept hb)
      rw [decide_eq_false hx] at HC
      have HH := Lib.hid HC
      have HX := Lib.hid hx
      clear h1 h2 HC hs hx
      go_enter Tryd.func18, Tryd.ntmps18
      go_wp2_with fail
      refine (HH.out _ ?_).mono ?_
      · repeat (first | exact Below.refl _ _ | refine below_alloc ?_ _ | refine below_drewN' ?_ _)
      rintro e w2 ⟨rfl, hq⟩
      have hbel : Below w.heap.size w w2 := below_trans (by repeat (first | exact Below.refl _ _ | refine below_alloc ?_ _)) (hq.below _)
      go_wp2
      go_ret
      exact ⟨ret_bool (decide_eq_false fun h => HX.out h.2).symm, hbel⟩
  · have hb : (s1 != s2) = true := by simp [hs]
    have HS := Lib.hid hs
    clear h1 h2 hs
    go_enter Tryd.func18, Tryd.ntmps18
    go_wp2
    go_ret
    exact ⟨ret_bool (decide_eq_false fun h => HS.out h.1).symm, by repeat (first | exact Below.refl _ _ | refine below_alloc ?_ _)⟩

theorem markAuto_any (st : Int) (v : Value) (lo hi : Nat) (rs : List Value) (xss : List (List Int)) (k0 : Int) (w : World) (hown : OwnRows w lo v rs xss) (hin : RowsIn lo hi v rs xss.length) (hhi : hi ≤ w.heap.size) (h0 : 0 ≤ k0) (hk0 : k0 + bulk2 xss ≤ 4611686018427387904) :
    Calls Tryd.prog 19 #[.agg #[.int .i64 st, v], .int .i64 k0] w (Marked2 v lo hi rs xss k0 w) := by
  obtain ⟨ao, m, c, rfl, HM⟩ := hown.reads.shape
  have HC := fun W (hb : Below w.heap.size w W) => markRows_any _ lo hi rs xss k0 W (hown.below hb) hin h0 hk0
  have HH := Lib.hid HC
  clear hown HC
  go_enter Tryd.func19, Tryd.ntmps19
  go_wp2_with fail
  refine (HH.out _ ?_).mono ?_
  · repeat (first | exact Below.refl _ _ | refine below_alloc ?_ _)
  rintro e w2 ⟨rfl, ho, hg⟩
  go_wp2
  go_ret
  exact ⟨rfl, ho, Chg.trans (chg_alloc (Chg.refl _ _ _) _) hg⟩

theorem heldAuto_any (st : Int) (v : Value) (zss yss : List (List Int)) (k0 : Int) (w : World) (h1 : Rows2 w v zss) (h0 : 0 ≤ k0) (hk0 : k0 + bulk2 yss ≤ 4611686018427387904) (hz : zss = numRows k0 yss) :
    Calls Tryd.prog 20 #[.agg #[.int .i64 st, v], .int .i64 k0] w (RetB (.int .i64 (k0 + bulk2 yss)) w) := by
  obtain ⟨ao, m, c, rfl, HM⟩ := h1.shape
  have HC := fun W (hb : Below w.heap.size w W) => heldRows_any _ zss yss k0 W (h1.kept hb) h0 hk0 hz
  have HH := Lib.hid HC
  have HZ := Lib.hid hz
  clear h1 HC hz
  go_enter Tryd.func20, Tryd.ntmps20
  go_wp2_with fail
  refine (HH.out _ ?_).mono ?_
  · repeat (first | exact Below.refl _ _ | refine below_alloc ?_ _)
  rintro e w2 ⟨rfl, rfl⟩
  go_wp2
  go_ret
  exact ⟨rfl, below_alloc (Below.refl _ _) _⟩

theorem eqAuto_yes (s : Int) (v1 v2 : Value) (xs : List (List Int)) (w : World) (h1 : Rows2 w v1 xs) (h2 : Rows2 w v2 xs) :
    Calls Tryd.prog 18 #[.agg #[.int .i64 s, v1], .agg #[.int .i64 s, v2]] w (RetB (.bool true) w) := by
  have := eqAuto_any s s v1 v2 xs xs w h1 h2
  rwa [show decide (s = s ∧ xs = xs) = true by simp] at this

end Go.Proofs.YtfdacodbiodiaaaDoor
