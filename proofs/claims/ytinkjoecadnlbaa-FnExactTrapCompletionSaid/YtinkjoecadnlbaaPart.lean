/- The laws' helpers at a struct of a number and rows: toPartial, eqPartial, szPartial, markPartial, heldPartial. One contract each. -/
import Derived.Test.YtinkjoecadnlbaaHelp2
namespace Go.Proofs.Ytinkjoecadnlbaa
set_option linter.unusedVariables false
set_option linter.unusedSimpArgs false
open Go.ChangeShapes Go.WideShapes Go.ChangeAt Go.RowKit

theorem toPart_any (st : Int) (v : Value) (xss : List (List Int)) (w : World) (h1 : Rows2 w v xss) (hs : xss.length + bulk2 xss ≤ 1048576) :
    Calls Try.prog 6 #[.agg #[.int .i64 st, v]] w (NewAuto st xss w) := by
  obtain ⟨ao, m, c, rfl, HM⟩ := h1.shape
  have HC := fun W (hb : Below w.heap.size w W) => toRows_any _ xss W (h1.kept hb) hs
  have HH := Lib.hid HC
  clear h1 HC hs
  go_enter Try.func6, Try.ntmps6
  go_wp2_with fail
  refine (HH.out _ ?_).mono ?_
  · repeat (first | exact Below.refl _ _ | refine below_alloc ?_ _ | refine below_set ?_ (by first | omega | simp) _ _)
  rintro e w2 ⟨v2, rs, rfl, ho, hb⟩
  obtain ⟨ao2, m2, c2, rfl, HM2⟩ := own_shape ho.outer
  obtain ⟨hc, hf⟩ := bcell hb
  have hz : w.heap.size + 2 < w2.heap.size := by have := hb.size; simp at this; omega
  go_wp2
  refine bodyPost_ret (v := .agg #[.int .i64 st, .slice ao2 m2 c2]) (by simp [results, Try.results6, go_sem, hc, hz]) rfl ⟨_, rs, rfl, ?_, ?_⟩
  · refine OwnRows.mono (lo := w.heap.size + 3) ?_ (by omega)
    repeat (first | refine OwnRows.set_below ?_ (by first | omega | simp) _ _)
    simpa using ho
  · repeat (first | exact Below.refl _ _ | refine below_alloc ?_ _ | refine below_set ?_ (by first | omega | simp) _ _ | refine below_trans ?_ hb)

theorem szPart_any (st : Int) (v : Value) (xss : List (List Int)) (l0 : Int) (w : World) (h1 : Rows2 w v xss) (h0 : 0 ≤ l0) (hl0 : l0 ≤ 1048576) :
    Calls Try.prog 4 #[.agg #[.int .i64 st, v], .int .i64 l0] w (SzPost2 l0 (xss.length + bulk2 xss) w) := by
  obtain ⟨ao, m, c, rfl, HM⟩ := h1.shape
  have HC := fun W (hb : Below w.heap.size w W) => szRows_any _ xss W l0 (h1.kept hb) h0 hl0
  have HH := Lib.hid HC
  clear h1 HC
  go_enter Try.func4, Try.ntmps4
  go_wp2_with fail
  refine (HH.out _ ?_).mono ?_
  · repeat (first | exact Below.refl _ _ | refine below_alloc ?_ _)
  rintro e w2 ⟨hq, r, rfl, hr⟩
  have hbel : Below w.heap.size w w2 := below_trans (by repeat (first | exact Below.refl _ _ | refine below_alloc ?_ _)) (hq.below _)
  rcases hr with rfl | ⟨hr0, hr⟩
  · go_wp2
    go_ret
    exact ⟨hbel, _, rfl, .inl rfl⟩
  · have HR := Lib.hid hr
    clear hr
    go_wp2
    go_ret
    exact ⟨hbel, _, rfl, .inr ⟨hr0, HR.out⟩⟩

/-- it returns v; nothing that was there has changed -/
theorem eqPart_any (s1 s2 : Int) (v1 v2 : Value) (xs ys : List (List Int)) (w : World) (h1 : Rows2 w v1 xs) (h2 : Rows2 w v2 ys) :
    Calls Try.prog 9 #[.agg #[.int .i64 s1, v1], .agg #[.int .i64 s2, v2]] w (RetB (.bool (decide (s1 = s2 ∧ xs = ys))) w) := by
  obtain ⟨ao1, m1, c1, rfl, HM1⟩ := h1.shape
  obtain ⟨ao2, m2, c2, rfl, HM2⟩ := h2.shape
  by_cases hs : s1 = s2
  · have hb : (s1 != s2) = false := by simp [hs]
    by_cases hx : xs = ys
    · have HC := fun W (hb : Below w.heap.size w W) => eqRows_any _ _ xs ys W (h1.kept hb) (h2.kept hb)
      rw [decide_eq_true hx] at HC
      have HH := Lib.hid HC
      have HS := Lib.hid hs
      have HX := Lib.hid hx
      clear h1 h2 HC hs hx
      go_enter Try.func9, Try.ntmps9
      go_wp2_with fail
      refine (HH.out _ ?_).mono ?_
      · repeat (first | exact Below.refl _ _ | refine below_alloc ?_ _ | refine below_drewN' ?_ _)
      rintro e w2 ⟨rfl, hq⟩
      have hbel : Below w.heap.size w w2 := below_trans (by repeat (first | exact Below.refl _ _ | refine below_alloc ?_ _)) (hq.below _)
      go_wp2
      go_ret
      exact ⟨ret_bool (decide_eq_true ⟨HS.out, HX.out⟩).symm, hbel⟩
    · have HC := fun W (hb : Below w.heap.size w W) => eqRows_any _ _ xs ys W (h1.kept hb) (h2.kept hb)
      rw [decide_eq_false hx] at HC
      have HH := Lib.hid HC
      have HX := Lib.hid hx
      clear h1 h2 HC hs hx
      go_enter Try.func9, Try.ntmps9
      go_wp2_with fail
      refine (HH.out _ ?_).mono ?_
      · repeat (first | exact Below.refl _ _ | refine below_alloc ?_ _ | refine below_drewN' ?_ _)
      rintro e w2 ⟨rfl, hq⟩
      have hbel : Below w.heap.size w w2 := below_trans (by repeat (first | exact Below.refl _ _ | refine below_alloc ?_ _)) (hq.below _)
      go_wp2
      go_ret
      exact ⟨ret_bool (decide_eq_false fun h => HX.out h.2).symm, hbel⟩
  · have hb : (s1 != s2) = true := by simp [hs]
    have HS := Lib.hid hs
    clear h1 h2 hs
    go_enter Try.func9, Try.ntmps9
    go_wp2
    go_ret
    exact ⟨ret_bool (decide_eq_false fun h => HS.out h.1).symm, by repeat (first | exact Below.refl _ _ | refine below_alloc ?_ _)⟩

theorem markPart_any (st : Int) (v : Value) (lo hi : Nat) (rs : List Value) (xss : List (List Int)) (k0 : Int) (w : World) (hown : OwnRows w lo v rs xss) (hin : RowsIn lo hi v rs xss.length) (hhi : hi ≤ w.heap.size) (h0 : 0 ≤ k0) (hk0 : k0 + bulk2 xss ≤ 4611686018427387904) :
    Calls Try.prog 10 #[.agg #[.int .i64 st, v], .int .i64 k0] w (Marked2 v lo hi rs xss k0 w) := by
  obtain ⟨ao, m, c, rfl, HM⟩ := hown.reads.shape
  have HC := fun W (hb : Below w.heap.size w W) => markRows_any _ lo hi rs xss k0 W (hown.below hb) hin h0 hk0
  have HH := Lib.hid HC
  clear hown HC
  go_enter Try.func10, Try.ntmps10
  go_wp2_with fail
  refine (HH.out _ ?_).mono ?_
  · repeat (first | exact Below.refl _ _ | refine below_alloc ?_ _)
  rintro e w2 ⟨rfl, ho, hg⟩
  go_wp2
  go_ret
  exact ⟨rfl, ho, Chg.trans (chg_alloc (Chg.refl _ _ _) _) hg⟩


theorem eqPart_yes (s : Int) (v1 v2 : Value) (xs : List (List Int)) (w : World) (h1 : Rows2 w v1 xs) (h2 : Rows2 w v2 xs) :
    Calls Try.prog 9 #[.agg #[.int .i64 s, v1], .agg #[.int .i64 s, v2]] w (RetB (.bool true) w) := by
  have := eqPart_any s s v1 v2 xs xs w h1 h2
  rwa [show decide (s = s ∧ xs = xs) = true by simp] at this

end Go.Proofs.Ytinkjoecadnlbaa
