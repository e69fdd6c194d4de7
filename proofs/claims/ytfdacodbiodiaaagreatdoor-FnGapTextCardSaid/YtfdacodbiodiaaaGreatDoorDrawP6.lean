/- P6Partial and P6Choice: valid ones, all whose memory is new. -/
import Derived.Test.YtfdacodbiodiaaaGreatDoorDrawCho
namespace Go.Proofs.YtfdacodbiodiaaaGreatDoor
set_option linter.unusedVariables false
set_option linter.unusedSimpArgs false
open Go.ChangeShapes Go.WideShapes Go.ChangeAt Go.RowKit

theorem BytesB.wide {w w' : World} {v : Value} {hi hi' : Nat} (h : BytesB w v hi) (hl : hi ≤ hi') (hc : ∀ b o, b < hi → w'.cell? ⟨b, o, none⟩ = w.cell? ⟨b, o, none⟩) : BytesB w' v hi' := by
  obtain ⟨ao, b, o, n, c, hv, hn, ha, hx⟩ := h.of_cells hc
  exact ⟨ao, b, o, n, c, hv, hn, fun h => ⟨(ha h).1, by have := (ha h).2; omega⟩, hx⟩
def NewPartD (w : World) (e : Ending) (w' : World) : Prop :=
  ∃ (st : Int) (v : Value) (rs : List Value) (xss : List (List Int)), e = .returned (.agg #[.int .i64 st, v]) ∧ OwnRows w' w.heap.size v rs xss ∧ validP st xss = true ∧ Below w.heap.size w w'
def NewChoD (w : World) (e : Ending) (w' : World) : Prop :=
  ∃ (st : Int) (v : Value) (rs : List Value) (xss : List (List (List Int))), e = .returned (.agg #[.int .i64 st, v]) ∧ CubeIn w' w.heap.size w'.heap.size v rs xss ∧ validC st xss = true ∧ Below w.heap.size w w'

set_option maxRecDepth 100000 in
theorem p6Partial_any (v : Value) (w : World) (h : BytesB w v w.heap.size) :
    Calls Tryz.prog 5 #[v, .int .i64 4] w (NewPartD w) := by
  obtain ⟨W2, hW2⟩ : ∃ W2, W2 = w.alloc (.cells #[.int .i64 0, .slice none 0 0] 26) := ⟨_, rfl⟩
  have bx : Below w.heap.size w W2 := by rw [hW2]; exact below_alloc (Below.refl _ _) _
  have p4 : W2.cell? ⟨w.heap.size, 0, none⟩ = some (.int .i64 0) := by rw [hW2]; go_simp
  have p5 : W2.cell? ⟨w.heap.size, 1, none⟩ = some (.slice none 0 0) := by rw [hW2]; go_simp
  have g4 : W2.frozen? ⟨w.heap.size, 0, none⟩ = false := by rw [hW2]; go_simp
  have g5 : W2.frozen? ⟨w.heap.size, 1, none⟩ = false := by rw [hW2]; go_simp
  have hl2 : w.heap.size < W2.heap.size := block_lt_of_cell p4
  have HF := Lib.hid (from_any v W2 (h.wide (Nat.le_of_lt hl2) (fun b o hb => bx.cell (p := ⟨b, o, none⟩) hb)))
  obtain ⟨X2, hX2⟩ : ∃ X2, X2 = W2 := ⟨_, rfl⟩
  rw [← hX2] at bx p4 p5 g4 g5 hl2 HF
  rw [hW2] at hX2
  have HX2 := Lib.hid hX2
  subst hW2
  clear h hX2
  go_enter Tryz.func5, Tryz.ntmps5
  go_wp2_with fail
  rw [← HX2.out]
  refine HF.out.mono ?_
  rintro e w1 ⟨rfl, hs1, hb1, hz1⟩
  have HL := Lib.hid (l04Draw_any _ w1 hs1)
  have q4 := below_cell hb1 p4
  have q5 := below_cell hb1 p5
  have f4 := (hb1.frozen (p := ⟨w.heap.size, 0, none⟩) hl2).trans g4
  have f5 := (hb1.frozen (p := ⟨w.heap.size, 1, none⟩) hl2).trans g5
  have bw1 := below_trans bx hb1
  clear hs1 hb1 hz1
  go_wp2_with fail
  refine HL.out.mono ?_
  rintro e w2 ⟨st, v2, rs, xss, rfl, ho, hv, hb2⟩
  have r4 := (hb2.cell (p := ⟨w.heap.size, 0, none⟩) hl2).trans q4
  have r5 := (hb2.cell (p := ⟨w.heap.size, 1, none⟩) hl2).trans q5
  have t4 := (hb2.frozen (p := ⟨w.heap.size, 0, none⟩) hl2).trans f4
  have t5 := (hb2.frozen (p := ⟨w.heap.size, 1, none⟩) hl2).trans f5
  have hz2 := block_lt_of_cell r4
  have hbb : Below w.heap.size w w2 := bw1.trans (hb2.mono (by omega))
  obtain ⟨a2, m2, c2, rfl, HM2⟩ := own_shape ho.outer
  have hws := bw1.size
  have hw1l : w.heap.size < w1.heap.size := block_lt_of_cell q4
  have HO := Lib.hid ho
  have HV := Lib.hid hv
  clear ho hv
  go_wp2
  refine bodyPost_ret (v := .agg #[.int .i64 st, .slice a2 m2 c2]) (by simp [results, Tryz.results5, go_sem, r4, r5, hz2]) rfl ⟨st, _, rs, xss, rfl, ?_, HV.out, ?_⟩
  · refine OwnRows.mono (lo := w1.heap.size) ?_ (by omega)
    repeat (first | exact HO.out | refine OwnRows.set_below ?_ (by first | omega | simp) _ _)
  · repeat (first | exact hbb | refine below_set ?_ (by omega) _ _)

set_option maxRecDepth 100000 in
theorem p6Choice_any (v : Value) (w : World) (h : BytesB w v w.heap.size) :
    Calls Tryz.prog 6 #[v] w (NewChoD w) := by
  obtain ⟨W2, hW2⟩ : ∃ W2, W2 = w.alloc (.cells #[.int .i64 0, .slice none 0 0] 30) := ⟨_, rfl⟩
  have bx : Below w.heap.size w W2 := by rw [hW2]; exact below_alloc (Below.refl _ _) _
  have p4 : W2.cell? ⟨w.heap.size, 0, none⟩ = some (.int .i64 0) := by rw [hW2]; go_simp
  have p5 : W2.cell? ⟨w.heap.size, 1, none⟩ = some (.slice none 0 0) := by rw [hW2]; go_simp
  have g4 : W2.frozen? ⟨w.heap.size, 0, none⟩ = false := by rw [hW2]; go_simp
  have g5 : W2.frozen? ⟨w.heap.size, 1, none⟩ = false := by rw [hW2]; go_simp
  have hl2 : w.heap.size < W2.heap.size := block_lt_of_cell p4
  have HF := Lib.hid (from_any v W2 (h.wide (Nat.le_of_lt hl2) (fun b o hb => bx.cell (p := ⟨b, o, none⟩) hb)))
  obtain ⟨X2, hX2⟩ : ∃ X2, X2 = W2 := ⟨_, rfl⟩
  rw [← hX2] at bx p4 p5 g4 g5 hl2 HF
  rw [hW2] at hX2
  have HX2 := Lib.hid hX2
  subst hW2
  clear h hX2
  go_enter Tryz.func6, Tryz.ntmps6
  go_wp2_with fail
  rw [← HX2.out]
  refine HF.out.mono ?_
  rintro e w1 ⟨rfl, hs1, hb1, hz1⟩
  have HL := Lib.hid (l04DrawChoice_any _ w1 hs1)
  have q4 := below_cell hb1 p4
  have q5 := below_cell hb1 p5
  have f4 := (hb1.frozen (p := ⟨w.heap.size, 0, none⟩) hl2).trans g4
  have f5 := (hb1.frozen (p := ⟨w.heap.size, 1, none⟩) hl2).trans g5
  have bw1 := below_trans bx hb1
  clear hs1 hb1 hz1
  go_wp2_with fail
  refine HL.out.mono ?_
  rintro e w2 ⟨st, v2, rs, xss, rfl, ho, hv, hb2⟩
  have r4 := (hb2.cell (p := ⟨w.heap.size, 0, none⟩) hl2).trans q4
  have r5 := (hb2.cell (p := ⟨w.heap.size, 1, none⟩) hl2).trans q5
  have t4 := (hb2.frozen (p := ⟨w.heap.size, 0, none⟩) hl2).trans f4
  have t5 := (hb2.frozen (p := ⟨w.heap.size, 1, none⟩) hl2).trans f5
  have hz2 := block_lt_of_cell r4
  have hbb : Below w.heap.size w w2 := bw1.trans (hb2.mono (by omega))
  obtain ⟨a2, m2, c2, rfl, HM2⟩ := own_shape ho.outer
  have hws := bw1.size
  have hw1l : w.heap.size < w1.heap.size := block_lt_of_cell q4
  have HO := Lib.hid ho
  have HV := Lib.hid hv
  clear ho hv
  go_wp2
  refine bodyPost_ret (v := .agg #[.int .i64 st, .slice a2 m2 c2]) (by simp [results, Tryz.results6, go_sem, r4, r5, hz2]) rfl ⟨st, _, rs, xss, rfl, ?_, HV.out, ?_⟩
  · exact ((((HO.out.set_below (by omega) _ _).set_below (by omega) _ _).mono (by omega))).upto
  · repeat (first | exact hbb | refine below_set ?_ (by omega) _ _)
end Go.Proofs.YtfdacodbiodiaaaGreatDoor
