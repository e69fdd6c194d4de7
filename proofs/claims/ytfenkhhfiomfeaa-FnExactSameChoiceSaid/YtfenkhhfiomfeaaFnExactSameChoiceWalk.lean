/- FnExactSameChoice's walk. -/
import Derived.Test.YtfenkhhfiomfeaaCube
import Derived.Test.YtfenkhhfiomfeaaSame3
import Derived.Deep.RegionHeld3
namespace Go.Proofs.Ytfenkhhfiomfeaa
set_option linter.unusedVariables false
set_option linter.unusedSimpArgs false
open Go.ChangeShapes Go.WideShapes Go.ChangeAt Go.RowKit

set_option maxHeartbeats 1000000 in
theorem walk_FnExactSameChoice (w : World) (sa : Int) (va : Value) (xa : List (List (List Int))) (ha : Rows3 w va xa) (sb : Int) (vb : Value) (xb : List (List (List Int))) (hb : Rows3 w vb xb) :
    Calls Try.prog 4 #[.agg #[.int .i64 sa, va], .agg #[.int .i64 sb, vb]] w fun e w' => e = .returned (.bool true) ∧ Below w.heap.size w w' := by
  obtain ⟨aoa, ma, ca, rfl, HMa⟩ := ha.shape
  obtain ⟨aob, mb, cb, rfl, HMb⟩ := hb.shape
  have HSa := Lib.hid (fun W l (hW : Below w.heap.size w W) (h0 : 0 ≤ l) (h1 : l ≤ 1048576) => szChoice_any sa _ xa l W (ha.kept hW) h0 h1)
  have HSb := Lib.hid (fun W l (hW : Below w.heap.size w W) (h0 : 0 ≤ l) (h1 : l ≤ 1048576) => szChoice_any sb _ xb l W (hb.kept hW) h0 h1)
  have b0 : Below w.heap.size w ((w.alloc (.cells #[.int .i64 sa, .slice aoa ma ca] 33)).alloc (.cells #[.int .i64 sb, .slice aob mb cb] 33)) := below_alloc (below_alloc (Below.refl _ _) _) _
  go_enter Try.func4, Try.ntmps4
  go_wp2_with fail
  refine (HSa.out _ _ b0 (by omega) (by omega)).mono ?_
  rintro e w1 ⟨hb1, r, rfl, hr⟩
  have b1 := below_trans b0 hb1
  obtain ⟨hc1, hf1⟩ := bcell hb1
  have hz1 : w.heap.size + 1 < w1.heap.size := by have := hb1.size; simp at this; omega
  rcases hr with rfl | ⟨hr0, hr⟩
  · clear ha hb
    go_wp2
    go_ret
    exact ⟨rfl, b1⟩
  have hbulka : xa.length + bulk3 xa ≤ 1048576 := by omega
  have hr1 : r ≤ 1048576 := by omega
  clear hr
  go_wp2_with fail
  refine (HSb.out _ _ b1 hr0 hr1).mono ?_
  rintro e w2 ⟨hb2, q, rfl, hq⟩
  have b2 := below_trans b1 hb2
  have B2 := below_trans hb1 hb2
  have hz2 : w.heap.size + 1 < w2.heap.size := by have := hb2.size; omega
  rcases hq with rfl | ⟨hq0, hq⟩
  · clear ha hb
    go_wp2
    go_ret
    exact ⟨rfl, b2⟩
  have hbulkb : xb.length + bulk3 xb ≤ 1048576 := by omega
  clear hq
  have hA : ArgCube w (.slice aoa ma ca) xa := ⟨ha, hbulka⟩
  have hB : ArgCube w (.slice aob mb cb) xb := ⟨hb, hbulkb⟩
  have HT := Lib.hid (fun W st v xss (h : ArgCube w v xss) (hW : Below w.heap.size w W) => toChoice_any st v xss W (h.1.kept hW) h.2)
  have HW := Lib.hid (fun W v1 v2 (h1 : Rows3 W v1 xa) (h2 : Rows3 W v2 xb) => specSameChoice_any sa sb v1 v2 xa xb W h1 h2)
  have e0 : w2.cell? ⟨w.heap.size, 0, none⟩ = some (.int .i64 sa) := by rw [B2.cell (by simp <;> omega)]; go_simp
  have e1 : w2.cell? ⟨w.heap.size, 1, none⟩ = some (.slice aoa ma ca) := by rw [B2.cell (by simp <;> omega)]; go_simp
  have e2 : w2.cell? ⟨w.heap.size + 1, 0, none⟩ = some (.int .i64 sb) := by rw [B2.cell (by simp <;> omega)]; go_simp
  have e3 : w2.cell? ⟨w.heap.size + 1, 1, none⟩ = some (.slice aob mb cb) := by rw [B2.cell (by simp <;> omega)]; go_simp
  have l0 : w.heap.size < w2.heap.size := by omega
  have HA := Lib.hid hA
  have HB := Lib.hid hB
  clear ha hb hA hB hbulka hbulkb hc1 hf1 hb1 hb2 B2
  go_wp2
  go_region_held3 (fun w' => Below w2.heap.size w2 w' ∧ ∀ b o, b < w2.heap.size → w'.cell? ⟨b, o, none⟩ = w2.cell? ⟨b, o, none⟩) (first | exact held_start | assumption | exact held_next (by assumption) (by assumption))
      (first | (go_simp; go_at_call 20; refine (HT.out _ _ _ _ (by first | exact HA.out | exact HB.out) (below_trans b2 (And.left (by assumption)))).mono ?_; rintro e w7 ⟨v7, rs7, rfl, ho7, hb7⟩; obtain ⟨ao7, m7, c7, rfl, HM7⟩ := own_shape ho7.outer) | (go_simp; go_at_call 19; refine (HW.out _ _ _ (by first | exact OwnCube.reads (by assumption) | exact (OwnCube.reads (by assumption)).kept (by assumption)) (by first | exact OwnCube.reads (by assumption) | exact (OwnCube.reads (by assumption)).kept (by assumption))).mono ?_; rintro e w8 ⟨rfl, hb8⟩))
  all_goals
    have hB8 : Below w2.heap.size w2 w8 := And.left (by assumption)
    have b8 := below_trans b2 hB8
    have k0 : w.heap.size < w8.heap.size := by have := hB8.size; omega
    have k1 : w.heap.size + 1 < w8.heap.size := by have := hB8.size; omega
    go_wp2_with fail
    refine (HT.out _ _ _ _ (by first | exact HA.out | exact HB.out) b8).mono ?_
    rintro e w9 ⟨v9, rs9, rfl, ho9, hb9⟩
    obtain ⟨ao9, m9, c9, rfl, HM9⟩ := own_shape ho9.outer
    obtain ⟨hc9, hf9⟩ := bcell hb9
    have k9 : w.heap.size < w9.heap.size := by have := hb9.size; omega
    have k9' : w.heap.size + 1 < w9.heap.size := by have := hb9.size; omega
    have b10 : Below w9.heap.size w9 (w9.alloc (.cells #[.int .i64 sa, .slice ao9 m9 c9] 36)) := below_alloc (Below.refl _ _) _
    have b10' := below_trans b8 (below_trans hb9 b10)
    go_wp2_with fail
    refine (HT.out _ _ _ _ (by first | exact HA.out | exact HB.out) b10').mono ?_
    rintro e w11 ⟨v11, rs11, rfl, ho11, hb11⟩
    obtain ⟨ao11, m11, c11, rfl, HM11⟩ := own_shape ho11.outer
    have B11 := below_trans b10 hb11
    have k11 : w9.heap.size < w11.heap.size := by have := hb11.size; simp at this; omega
    have f0 : w11.cell? ⟨w9.heap.size, 0, none⟩ = some (.int .i64 sa) := by rw [hb11.cell (by simp)]; go_simp
    have f1 : w11.cell? ⟨w9.heap.size, 1, none⟩ = some (.slice ao9 m9 c9) := by rw [hb11.cell (by simp)]; go_simp
    have b12 : Below w11.heap.size w11 (w11.alloc (.cells #[.int .i64 sb, .slice ao11 m11 c11] 36)) := below_alloc (Below.refl _ _) _
    have HV := Lib.hid (implSameChoice_any sa sb (.slice ao9 m9 c9) (.slice ao11 m11 c11) xa xb _ (ho9.reads.kept (below_trans B11 b12)) (ho11.reads.kept b12))
    go_wp2_with fail
    refine HV.out.mono ?_
    rintro e wc ⟨rfl, hbc⟩
    have Bc := below_trans b12 hbc
    have bc := below_trans b10' (below_trans hb11 Bc)
    have g0 : wc.cell? ⟨w9.heap.size, 0, none⟩ = some (.int .i64 sa) := (Bc.cell (by simpa using k11)).trans f0
    have g1 : wc.cell? ⟨w9.heap.size, 1, none⟩ = some (.slice ao9 m9 c9) := (Bc.cell (by simpa using k11)).trans f1
    have g2 : wc.cell? ⟨w11.heap.size, 0, none⟩ = some (.int .i64 sb) := by rw [hbc.cell (by simp)]; go_simp
    have g3 : wc.cell? ⟨w11.heap.size, 1, none⟩ = some (.slice ao11 m11 c11) := by rw [hbc.cell (by simp)]; go_simp
    have q0 := block_lt_of_cell g0
    have q2 := block_lt_of_cell g2
    have BB : Below w2.heap.size w2 wc := below_trans hB8 (below_trans hb9 (below_trans B11 Bc))
    have p0 : wc.cell? ⟨w.heap.size, 0, none⟩ = some (.int .i64 sa) := (BB.cell (by simpa using l0)).trans e0
    have p1 : wc.cell? ⟨w.heap.size, 1, none⟩ = some (.slice aoa ma ca) := (BB.cell (by simpa using l0)).trans e1
    have p2 : wc.cell? ⟨w.heap.size + 1, 0, none⟩ = some (.int .i64 sb) := (BB.cell (by simpa using hz2)).trans e2
    have p3 : wc.cell? ⟨w.heap.size + 1, 1, none⟩ = some (.slice aob mb cb) := (BB.cell (by simpa using hz2)).trans e3
    have s0 := block_lt_of_cell p0
    have s2 := block_lt_of_cell p2
    have HE1 := Lib.hid (fun W v7 (hW : Below wc.heap.size wc W) (h7 : Rows3 W v7 xa) => eqChoice_yes sa (.slice ao9 m9 c9) v7 xa W ((ho9.reads.kept (below_trans B11 Bc)).kept hW) h7)
    have HE2 := Lib.hid (fun W v7 (hW : Below wc.heap.size wc W) (h7 : Rows3 W v7 xb) => eqChoice_yes sb (.slice ao11 m11 c11) v7 xb W ((ho11.reads.kept Bc).kept hW) h7)
    clear hc9 hf9 hb9 b10 b10' hb11 B11 f0 f1 b12 HV hbc Bc BB ho9 ho11
    go_wp2
    go_region_held3 (fun w' => Below wc.heap.size wc w' ∧ ∀ b o, b < wc.heap.size → w'.cell? ⟨b, o, none⟩ = wc.cell? ⟨b, o, none⟩) (first | exact held_start | assumption | exact held_next (by assumption) (by assumption)) (first | (go_simp; go_at_call 20; refine (HT.out _ _ _ _ (by first | exact HA.out | exact HB.out) (below_trans bc (And.left (by assumption)))).mono ?_; rintro e w17 ⟨v17, rs17, rfl, ho17, hb17⟩; obtain ⟨ao17, m17, c17, rfl, HM17⟩ := own_shape ho17.outer) | (go_simp; go_at_call 22; refine (HE1.out _ _ (And.left (by assumption)) (OwnCube.reads (by assumption))).mono ?_; rintro e w18 ⟨rfl, hb18⟩))
    have hwd : Below wc.heap.size wc w18 := And.left (by assumption)
    obtain ⟨wd, hwd'⟩ : ∃ wd, wd = w18 := ⟨_, rfl⟩
    subst hwd'
    have bd := below_trans bc hwd
    have t2 : w11.heap.size < wd.heap.size := by have := hwd.size; omega
    have t3 : w.heap.size + 1 < wd.heap.size := by have := hwd.size; omega
    go_wp2
    go_region_held3 (fun w' => Below wd.heap.size wd w' ∧ ∀ b o, b < wd.heap.size → w'.cell? ⟨b, o, none⟩ = wd.cell? ⟨b, o, none⟩) (first | exact held_start | assumption | exact held_next (by assumption) (by assumption)) (first | (go_simp; go_at_call 20; refine (HT.out _ _ _ _ (by first | exact HA.out | exact HB.out) (below_trans bd (And.left (by assumption)))).mono ?_; rintro e w27 ⟨v27, rs27, rfl, ho27, hb27⟩; obtain ⟨ao27, m27, c27, rfl, HM27⟩ := own_shape ho27.outer) | (go_simp; go_at_call 22; refine (HE2.out _ _ (below_trans hwd (And.left (by assumption))) (OwnCube.reads (by assumption))).mono ?_; rintro e w28 ⟨rfl, hb28⟩))
    go_wp2
    go_ret
    exact ⟨rfl, below_trans bd (And.left (by assumption))⟩

end Go.Proofs.Ytfenkhhfiomfeaa
