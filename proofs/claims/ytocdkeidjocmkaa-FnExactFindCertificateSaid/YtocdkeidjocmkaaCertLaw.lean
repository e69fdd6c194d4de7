/- The laws' helpers at a certificate of which one list is nil: eqCertificate, markCertificate, heldCertificate. One contract each and side. -/
import Derived.Test.YtocdkeidjocmkaaHelp2
import Derived.Test.YtocdkeidjocmkaaNew
namespace Go.Proofs.Ytocdkeidjocmkaa
set_option linter.unusedVariables false
set_option linter.unusedSimpArgs false
open Go.ChangeShapes Go.WideShapes Go.ChangeAt Go.RowKit

theorem rows_nil (w : World) : Rows2 w (.slice none 0 0) [] := (ownRows_nil w 0).reads
theorem rowsIn_nil : RowsIn 0 0 (.slice none 0 0) [] ([] : List (List Int)).length := ⟨fun g hg => (by cases hg), fun k hk => absurd hk (by simp)⟩
theorem Chg.ofNone {w w' : World} (h : Chg 0 0 w w') : Below w.heap.size w w' ∧ ∀ lo hi, Chg lo hi w w' :=
  ⟨⟨h.os, h.tape, h.output, h.size, fun k hk => h.block k hk (.inr (Nat.zero_le _))⟩, fun _ _ => ⟨h.os, h.tape, h.output, h.size, fun k hk _ => h.block k hk (.inr (Nat.zero_le _))⟩⟩
/-- .. a certificate with pairs; with words -/
def NewCertP (k : Int) (xss : List (List Int)) (code : Int) (w : World) (e : Ending) (w' : World) : Prop :=
  ∃ v rs, e = .returned (.tuple #[.agg #[.int .i64 k, v, .slice none 0 0], .int .i64 code]) ∧ OwnRows w' w.heap.size v rs xss ∧ Below w.heap.size w w'
def NewCertW (k : Int) (xss : List (List Int)) (code : Int) (w : World) (e : Ending) (w' : World) : Prop :=
  ∃ v rs, e = .returned (.tuple #[.agg #[.int .i64 k, .slice none 0 0, v], .int .i64 code]) ∧ OwnRows w' w.heap.size v rs xss ∧ Below w.heap.size w w'

theorem eqCertP_yes (k : Int) (v1 v2 : Value) (xs : List (List Int)) (w : World) (h1 : Rows2 w v1 xs) (h2 : Rows2 w v2 xs) :
    Calls Try.prog 21 #[.agg #[.int .i64 k, v1, .slice none 0 0], .agg #[.int .i64 k, v2, .slice none 0 0]] w (RetB (.bool true) w) := by
  obtain ⟨ao1, m1, c1, rfl, HM1⟩ := h1.shape
  obtain ⟨ao2, m2, c2, rfl, HM2⟩ := h2.shape
  have hk : (k != k) = false := by simp
  have HH := Lib.hid (fun W (hb : Below w.heap.size w W) => eqRows_any _ _ xs xs W (h1.kept hb) (h2.kept hb))
  have HN := Lib.hid (fun W => eqRows_any _ _ [] [] W (rows_nil W) (rows_nil W))
  rw [decide_eq_true rfl] at HH HN
  clear h1 h2
  go_enter Try.func21, Try.ntmps21
  go_wp2_with fail
  refine (HH.out _ ?_).mono ?_
  · repeat (first | exact Below.refl _ _ | refine below_alloc ?_ _ | refine below_drewN' ?_ _ | exact below_trans (by repeat (first | exact Below.refl _ _ | refine below_alloc ?_ _)) (by assumption))
  rintro e w2 ⟨rfl, hq⟩
  have hb2 : Below w.heap.size w w2 := below_trans (by repeat (first | exact Below.refl _ _ | refine below_alloc ?_ _)) (hq.below _)
  obtain ⟨hc, hf⟩ := bcell (hq.below ((w.alloc (.cells #[.int .i64 k, .slice ao1 m1 c1, .slice none 0 0] 41)).alloc (.cells #[.int .i64 k, .slice ao2 m2 c2, .slice none 0 0] 41)).heap.size)
  have hz : w.heap.size + 2 ≤ w2.heap.size := by have := hq.size; simp at this; omega
  go_wp2_with fail
  refine (HN.out _).mono ?_
  rintro e w3 ⟨rfl, hq3⟩
  have hb3 : Below w.heap.size w w3 := below_trans hb2 (hq3.below _)
  go_wp2
  go_ret
  exact ⟨rfl, hb3⟩

theorem markCertP_any (k : Int) (v : Value) (lo hi : Nat) (rs : List Value) (xss : List (List Int)) (k0 : Int) (w : World) (hown : OwnRows w lo v rs xss) (hin : RowsIn lo hi v rs xss.length) (hhi : hi ≤ w.heap.size) (h0 : 0 ≤ k0) (hk0 : k0 + bulk2 xss ≤ 4611686018427387904) :
    Calls Try.prog 24 #[.agg #[.int .i64 k, v, .slice none 0 0], .int .i64 k0] w (Marked2 v lo hi rs xss k0 w) := by
  obtain ⟨ao, m, c, rfl, HM⟩ := hown.reads.shape
  have HH := Lib.hid (fun W (hb : Below w.heap.size w W) => markRows_any _ lo hi rs xss k0 W (hown.below hb) hin h0 hk0)
  have HN := Lib.hid (fun W (q : Int) (hq : 0 ≤ q ∧ q ≤ 4611686018427387904) => markRows_any (.slice none 0 0) 0 0 [] [] q W (ownRows_nil W 0) rowsIn_nil hq.1 (by simpa [bulk2] using hq.2))
  clear hown
  go_enter Try.func24, Try.ntmps24
  go_wp2_with fail
  refine (HH.out _ (below_alloc (Below.refl _ _) _)).mono ?_
  rintro e w2 ⟨rfl, ho, hg⟩
  have p2 := hg.cell (show (w.alloc (.cells #[.int .i64 k, .slice ao m c, .slice none 0 0] 41)).cell? ⟨w.heap.size, 2, none⟩ = some (.slice none 0 0) by go_simp) (by omega)
  have hz := block_lt_of_cell p2
  go_wp2_with fail
  refine (HN.out _ _ (by omega)).mono ?_
  rintro e w3 ⟨rfl, _, hg3⟩
  obtain ⟨hb3, hc3⟩ := hg3.ofNone
  have HG := Lib.hid (Chg.trans (chg_alloc (Chg.refl lo hi _) _) (Chg.trans hg (hc3 lo hi)))
  have HO := Lib.hid (ho.below hb3)
  clear ho hg hg3 hc3
  go_wp2
  go_ret
  exact ⟨ret_int (by simp [bulk2]), HO.out, HG.out⟩

theorem heldCertP_any (k : Int) (v : Value) (zss yss : List (List Int)) (k0 : Int) (w : World) (h1 : Rows2 w v zss) (h0 : 0 ≤ k0) (hk0 : k0 + bulk2 yss ≤ 4611686018427387904) (hz : zss = numRows k0 yss) :
    Calls Try.prog 25 #[.agg #[.int .i64 k, v, .slice none 0 0], .int .i64 k0] w (RetB (.int .i64 (k0 + bulk2 yss)) w) := by
  obtain ⟨ao, m, c, rfl, HM⟩ := h1.shape
  have HH := Lib.hid (fun W (hb : Below w.heap.size w W) => heldRows_any _ zss yss k0 W (h1.kept hb) h0 hk0 hz)
  have HN := Lib.hid (fun W (q : Int) (hq : 0 ≤ q ∧ q ≤ 4611686018427387904) => heldRows_any (.slice none 0 0) [] [] q W (rows_nil W) hq.1 (by simpa [bulk2] using hq.2) rfl)
  clear h1 hz
  go_enter Try.func25, Try.ntmps25
  go_wp2_with fail
  refine (HH.out _ (below_alloc (Below.refl _ _) _)).mono ?_
  rintro e w2 ⟨rfl, rfl⟩
  have hd1 : decide (k0 + (bulk2 yss : Int) < 0) = false := decide_eq_false (by omega)
  go_wp2_with fail
  refine (HN.out _ _ (by omega)).mono ?_
  rintro e w3 ⟨rfl, rfl⟩
  have hd2 : decide (k0 + (bulk2 yss : Int) + ((bulk2 [] : Nat) : Int) < 0) = false := decide_eq_false (by omega)
  go_wp2
  go_ret
  exact ⟨ret_int (by simp [bulk2]), below_alloc (Below.refl _ _) _⟩

theorem eqCertW_yes (k : Int) (v1 v2 : Value) (xs : List (List Int)) (w : World) (h1 : Rows2 w v1 xs) (h2 : Rows2 w v2 xs) :
    Calls Try.prog 21 #[.agg #[.int .i64 k, .slice none 0 0, v1], .agg #[.int .i64 k, .slice none 0 0, v2]] w (RetB (.bool true) w) := by
  obtain ⟨ao1, m1, c1, rfl, HM1⟩ := h1.shape
  obtain ⟨ao2, m2, c2, rfl, HM2⟩ := h2.shape
  have hk : (k != k) = false := by simp
  have HH := Lib.hid (fun W (hb : Below w.heap.size w W) => eqRows_any _ _ xs xs W (h1.kept hb) (h2.kept hb))
  have HN := Lib.hid (fun W => eqRows_any _ _ [] [] W (rows_nil W) (rows_nil W))
  rw [decide_eq_true rfl] at HH HN
  clear h1 h2
  go_enter Try.func21, Try.ntmps21
  go_wp2_with fail
  refine (HN.out _).mono ?_
  rintro e w2 ⟨rfl, hq⟩
  have hb2 : Below w.heap.size w w2 := below_trans (by repeat (first | exact Below.refl _ _ | refine below_alloc ?_ _)) (hq.below _)
  obtain ⟨hc, hf⟩ := bcell (hq.below ((w.alloc (.cells #[.int .i64 k, .slice none 0 0, .slice ao1 m1 c1] 41)).alloc (.cells #[.int .i64 k, .slice none 0 0, .slice ao2 m2 c2] 41)).heap.size)
  have hz : w.heap.size + 2 ≤ w2.heap.size := by have := hq.size; simp at this; omega
  go_wp2_with fail
  refine (HH.out _ ?_).mono ?_
  · exact hb2
  rintro e w3 ⟨rfl, hq3⟩
  have hb3 : Below w.heap.size w w3 := below_trans hb2 (hq3.below _)
  go_wp2
  go_ret
  exact ⟨rfl, hb3⟩

theorem markCertW_any (k : Int) (v : Value) (lo hi : Nat) (rs : List Value) (xss : List (List Int)) (k0 : Int) (w : World) (hown : OwnRows w lo v rs xss) (hin : RowsIn lo hi v rs xss.length) (hhi : hi ≤ w.heap.size) (h0 : 0 ≤ k0) (hk0 : k0 + bulk2 xss ≤ 4611686018427387904) :
    Calls Try.prog 24 #[.agg #[.int .i64 k, .slice none 0 0, v], .int .i64 k0] w (Marked2 v lo hi rs xss k0 w) := by
  obtain ⟨ao, m, c, rfl, HM⟩ := hown.reads.shape
  have HH := Lib.hid (fun W (hb : Below w.heap.size w W) => markRows_any _ lo hi rs xss k0 W (hown.below hb) hin h0 hk0)
  have HN := Lib.hid (fun W (q : Int) (hq : 0 ≤ q ∧ q ≤ 4611686018427387904) => markRows_any (.slice none 0 0) 0 0 [] [] q W (ownRows_nil W 0) rowsIn_nil hq.1 (by simpa [bulk2] using hq.2))
  clear hown
  go_enter Try.func24, Try.ntmps24
  go_wp2_with fail
  refine (HN.out _ _ (by omega)).mono ?_
  rintro e w2 ⟨rfl, _, hg⟩
  obtain ⟨hb2, hc2⟩ := hg.ofNone
  have p2 := below_cell hb2 (show (w.alloc (.cells #[.int .i64 k, .slice none 0 0, .slice ao m c] 41)).cell? ⟨w.heap.size, 2, none⟩ = some (.slice ao m c) by go_simp)
  have hz := block_lt_of_cell p2
  have hbw : Below w.heap.size w w2 := below_trans (below_alloc (Below.refl _ _) _) hb2
  have e0 : k0 + ((bulk2 [] : Nat) : Int) = k0 := by simp [bulk2]
  rw [e0]
  go_wp2_with fail
  refine (HH.out _ hbw).mono ?_
  rintro e w3 ⟨rfl, ho, hg3⟩
  have HG := Lib.hid (Chg.trans (chg_alloc (Chg.refl lo hi _) _) (Chg.trans (hc2 lo hi) hg3))
  have HO := Lib.hid ho
  clear ho hg hg3 hc2
  go_wp2
  go_ret
  exact ⟨rfl, HO.out, HG.out⟩

theorem heldCertW_any (k : Int) (v : Value) (zss yss : List (List Int)) (k0 : Int) (w : World) (h1 : Rows2 w v zss) (h0 : 0 ≤ k0) (hk0 : k0 + bulk2 yss ≤ 4611686018427387904) (hz : zss = numRows k0 yss) :
    Calls Try.prog 25 #[.agg #[.int .i64 k, .slice none 0 0, v], .int .i64 k0] w (RetB (.int .i64 (k0 + bulk2 yss)) w) := by
  obtain ⟨ao, m, c, rfl, HM⟩ := h1.shape
  have HH := Lib.hid (fun W (hb : Below w.heap.size w W) => heldRows_any _ zss yss k0 W (h1.kept hb) h0 hk0 hz)
  have HN := Lib.hid (fun W (q : Int) (hq : 0 ≤ q ∧ q ≤ 4611686018427387904) => heldRows_any (.slice none 0 0) [] [] q W (rows_nil W) hq.1 (by simpa [bulk2] using hq.2) rfl)
  clear h1 hz
  go_enter Try.func25, Try.ntmps25
  go_wp2_with fail
  refine (HN.out _ _ (by omega)).mono ?_
  rintro e w2 ⟨rfl, rfl⟩
  have e0 : k0 + ((bulk2 [] : Nat) : Int) = k0 := by simp [bulk2]
  rw [e0]
  have hd1 : decide (k0 < 0) = false := decide_eq_false (by omega)
  go_wp2_with fail
  refine (HH.out _ (below_alloc (Below.refl _ _) _)).mono ?_
  rintro e w3 ⟨rfl, rfl⟩
  have hd2 : decide (k0 + (bulk2 yss : Int) < 0) = false := decide_eq_false (by omega)
  go_wp2
  go_ret
  exact ⟨rfl, below_alloc (Below.refl _ _) _⟩

end Go.Proofs.Ytocdkeidjocmkaa
