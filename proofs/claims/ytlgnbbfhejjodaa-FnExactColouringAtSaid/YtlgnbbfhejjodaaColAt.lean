/- ColouringAt of the reference and of the program. Written by gen_colat.py. -/
import Derived.Test.YtlgnbbfhejjodaaColImpl
namespace Go.Proofs.Ytlgnbbfhejjodaa
set_option linter.unusedVariables false
set_option linter.unusedSimpArgs false
open Go.ChangeShapes Go.WideShapes Go.ChangeAt Go.RowKit

def caIn (xss : List (List Int)) (z : Int) : Bool := inB z 0 ((cntOf (choices xss) : Int) - 1)
def caCd (st : Int) (xss : List (List Int)) (z : Int) : Int := if validR st xss = true then (if caIn xss z = true then 0 else 2) else 1
def caSt (st : Int) (xss : List (List Int)) (z : Int) : Int := if caCd st xss z = 0 then st else 0
def caRows (st : Int) (xss : List (List Int)) (z : Int) : List (List Int) := if caCd st xss z = 0 then colRows (choices xss) (xss.getD 0 []).length z.toNat else []
theorem bulk_le_all2 : ∀ (l : List (List Int)) (m : Nat), (∀ j, j < l.length → (l.getD j []).length ≤ m) → bulk2 l ≤ l.length * m := by
  intro l m
  induction l with
  | nil => intro _; simp [bulk2]
  | cons a l ih =>
    intro h
    have h0 : a.length ≤ m := h 0 (by simp)
    have h1 := ih fun j hj => h (j + 1) (by simpa using hj)
    unfold bulk2 at h1 ⊢
    rw [List.map_cons, List.sum_cons, List.length_cons, Nat.succ_mul]
    omega
theorem colRows_bulk {n d z : Nat} {ls : List (List (List Int))} (hg : GoodL n d ls) (h1 : 1 ≤ n) (hn : n ≤ 7) (hd : 1 ≤ d) (h3 : d ≤ 3) : bulk2 (colRows ls d z) ≤ 1000 := by
  have h := bulk_le_all2 (colRows ls d z) 10 fun k hk => by
    have hg2 := hg.good h1 hn hd h3 z
    have := hg2.row hk
    omega
  rw [colRows_len] at h
  omega
theorem caRows_bulk (st : Int) (xss : List (List Int)) (z : Int) : bulk2 (caRows st xss z) ≤ 1000 := by
  unfold caRows
  split
  · rename_i h
    cases hv : validR st xss
    · simp [caCd, hv] at h
    · obtain ⟨n, d, hg⟩ := goodR_of hv
      rw [hg.row 0 (by have := hg.lo; omega)]
      exact colRows_bulk hg.choices hg.lo hg.hi hg.d1 hg.d3
  · simp [bulk2]

set_option maxRecDepth 100000 in
set_option maxHeartbeats 4000000 in
theorem implColAt_any (st : Int) (v : Value) (xss : List (List Int)) (z : Int) (w : World) (h1 : Rows2 w v xss) :
    Calls Try.prog 32 #[.agg #[.int .i64 st, v], .int .i64 z] w (NewAuto2 (caSt st xss z) (caRows st xss z) (caCd st xss z) w) := by
  obtain ⟨ao, m, c, rfl, HM⟩ := h1.shape
  obtain ⟨W2, hW2⟩ : ∃ W2, W2 = (w.alloc (.cells #[.int .i64 st, .slice ao m c] 42)).alloc (.cells #[.int .i64 0, .slice none 0 0] 28) := ⟨_, rfl⟩
  have bx : Below w.heap.size w W2 := by rw [hW2]; exact below_alloc (below_alloc (Below.refl _ _) _) _
  have p0 : W2.cell? ⟨w.heap.size, 0, none⟩ = some (.int .i64 st) := by rw [hW2]; go_simp
  have p1 : W2.cell? ⟨w.heap.size, 1, none⟩ = some (.slice ao m c) := by rw [hW2]; go_simp
  have p4 : W2.cell? ⟨w.heap.size + 1, 0, none⟩ = some (.int .i64 0) := by rw [hW2]; go_simp
  have p5 : W2.cell? ⟨w.heap.size + 1, 1, none⟩ = some (.slice none 0 0) := by rw [hW2]; go_simp
  have g4 : W2.frozen? ⟨w.heap.size + 1, 0, none⟩ = false := by rw [hW2]; go_simp
  have g5 : W2.frozen? ⟨w.heap.size + 1, 1, none⟩ = false := by rw [hW2]; go_simp
  have HOK := Lib.hid (validRoad_any st _ xss W2 (h1.kept bx))
  cases hv : validR st xss
  · rw [show caSt st xss z = 0 by simp [caSt, caCd, hv], show caRows st xss z = [] by simp [caRows, caCd, hv], show caCd st xss z = 1 by simp [caCd, hv]]
    rw [hv] at HOK
    subst hW2
    clear hv h1
    go_enter Try.func32, Try.ntmps32
    go_wp2_with fail
    refine HOK.out.mono ?_
    rintro e w2 ⟨rfl, hb⟩
    have hbx9 := hb
    have q4 := below_cell hbx9 p4
    have q5 := below_cell hbx9 p5
    have f4 := (hbx9.frozen (p := ⟨w.heap.size + 1, 0, none⟩) (block_lt_of_cell p4)).trans g4
    have f5 := (hbx9.frozen (p := ⟨w.heap.size + 1, 1, none⟩) (block_lt_of_cell p5)).trans g5
    have hz9 : w.heap.size + 1 < w2.heap.size := block_lt_of_cell q4
    have hbb := below_trans bx hbx9
    have HBB := Lib.hid hbb
    clear hbb hbx9
    go_wp2
    refine bodyPost_ret (v := .tuple #[.agg #[.int .i64 0, .slice none 0 0], .int .i64 1]) (by simp [results, Try.results32, go_sem, q4, q5, hz9]) rfl ⟨_, [], rfl, ownRows_nil _ _, by repeat (first | exact HBB.out | refine below_set ?_ (by omega) _ _)⟩
  obtain ⟨n, d, hg⟩ := goodR_of hv
  obtain rfl := hg.st
  have hn := hg.hi
  have hn1 := hg.lo
  have hd1 := hg.d1
  have hd3 := hg.d3
  rw [hv] at HOK
  have HNP := Lib.hid (fun W (hW : Below W2.heap.size W2 W) => newPaint_any n _ xss W ((h1.kept bx).kept hW) (by rw [hg.len]; exact hg.hi) (fun s hs => by rw [hg.row s (by rw [← hg.len]; exact hs)]; exact hg.d3))
  have HCN := Lib.hid (fun (u : Value) W (h : Rows3 W u (choices xss)) => paintCount_any n ao m c u (choices xss) n d W h hg.choices hg.hi)
  have HIN := Lib.hid (fun hi W => within_any z 0 hi W)
  have HAT := Lib.hid (fun zn (hzn : zn ≤ 279936) (u : Value) W (hW : Below W2.heap.size W2 W) (h : Rows3 W u (choices xss)) => paintAt_any _ u xss (choices xss) n d zn W ((h1.kept bx).kept hW) h hg.choices (by rw [hg.len]; exact hg.lo) (hg.row 0 hg.lo) hg.lo hg.hi hg.d1 hg.d3 hzn)
  have hcn : cntOf (choices xss) ≤ 279936 := by unfold cntOf; rw [hg.choices.len]; exact hg.choices.cnt7 hg.hi (Nat.le_refl _)
  have hcn1 : 1 ≤ cntOf (choices xss) := by unfold cntOf; rw [hg.choices.len]; exact (hg.choices.cnt _ (Nat.le_refl _)).1
  cases hin : caIn xss z
  · rw [show caSt n xss z = 0 by simp [caSt, caCd, hv, hin], show caRows n xss z = [] by simp [caRows, caCd, hv, hin], show caCd n xss z = 2 by simp [caCd, hv, hin]]
    have hin2 : inB z 0 ((cntOf (choices xss) : Int) - 1) = false := hin
    have HI2 := Lib.hid (HIN.out ((cntOf (choices xss) : Int) - 1))
    rw [hin2] at HI2
    generalize cntOf (choices xss) = cn at HCN HI2 hcn hcn1 
    clear hin hin2
    generalize choices xss = ls at HCN HNP 
    subst hW2
    clear hv h1 hg HIN HAT
    go_enter Try.func32, Try.ntmps32
    go_wp2_with fail
    refine HOK.out.mono ?_
    rintro e w2 ⟨rfl, hb⟩
    have r0 := below_cell hb p0
    have r1 := below_cell hb p1
    have lr := block_lt_of_cell r0
    go_wp2_with fail
    refine (HNP.out _ hb).mono ?_
    rintro e w3 ⟨v3, rs3, rfl, ho3, hb3⟩
    have hr3 := ho3.reads
    obtain ⟨a3, m3, c3, rfl, HM3⟩ := own_shape ho3.outer
    clear ho3
    have hbe := below_trans hb hb3
    have hal : Below w3.heap.size w3 (w3.alloc (.cells #[.int .i64 (n : Int), .slice ao m c, .slice a3 m3 c3] 95)) := below_alloc (Below.refl _ _) _
    have t0 : (w3.alloc (.cells #[.int .i64 (n : Int), .slice ao m c, .slice a3 m3 c3] 95)).cell? ⟨w3.heap.size, 0, none⟩ = some (.int .i64 n) := by go_simp
    have t1 : (w3.alloc (.cells #[.int .i64 (n : Int), .slice ao m c, .slice a3 m3 c3] 95)).cell? ⟨w3.heap.size, 1, none⟩ = some (.slice ao m c) := by go_simp
    have t2 : (w3.alloc (.cells #[.int .i64 (n : Int), .slice ao m c, .slice a3 m3 c3] 95)).cell? ⟨w3.heap.size, 2, none⟩ = some (.slice a3 m3 c3) := by go_simp
    go_wp2_with fail
    refine (HCN.out _ _ (hr3.kept hal)).mono ?_
    rintro e w4 ⟨rfl, hb4⟩
    replace t0 := below_cell hb4 t0
    replace t1 := below_cell hb4 t1
    replace t2 := below_cell hb4 t2
    have lt := block_lt_of_cell t0
    replace hbe := below_trans hbe (below_trans hal hb4)
    have hr4 := hr3.kept (below_trans hal hb4)
    go_wp2_with fail
    refine (HI2.out _).mono ?_
    rintro e w5 ⟨rfl, rfl⟩
    have hbx9 := hbe
    have q4 := below_cell hbx9 p4
    have q5 := below_cell hbx9 p5
    have f4 := (hbx9.frozen (p := ⟨w.heap.size + 1, 0, none⟩) (block_lt_of_cell p4)).trans g4
    have f5 := (hbx9.frozen (p := ⟨w.heap.size + 1, 1, none⟩) (block_lt_of_cell p5)).trans g5
    have hz9 : w.heap.size + 1 < w4.heap.size := block_lt_of_cell q4
    have hbb := below_trans bx hbx9
    have HBB := Lib.hid hbb
    clear hbb hbx9
    go_wp2
    refine bodyPost_ret (v := .tuple #[.agg #[.int .i64 0, .slice none 0 0], .int .i64 2]) (by simp [results, Try.results32, go_sem, q4, q5, hz9]) rfl ⟨_, [], rfl, ownRows_nil _ _, by repeat (first | exact HBB.out | refine below_set ?_ (by omega) _ _)⟩
  · have hin2 : inB z 0 ((cntOf (choices xss) : Int) - 1) = true := hin
    have hzz := inB_true.1 hin2
    obtain ⟨zn, rfl⟩ : ∃ zn : Nat, z = (zn : Int) := ⟨z.toNat, by omega⟩
    have HA := Lib.hid (HAT.out zn (by omega))
    rw [show caSt n xss zn = n by simp [caSt, caCd, hv, hin], show caRows n xss zn = colRows (choices xss) d zn by simp only [caRows, caCd, hv, hin, if_true, Int.toNat_natCast]; rw [hg.row 0 hg.lo], show caCd n xss zn = 0 by simp [caCd, hv, hin]]
    generalize colRows (choices xss) d zn = rr at HA ⊢
    have HI2 := Lib.hid (HIN.out ((cntOf (choices xss) : Int) - 1))
    rw [hin2] at HI2
    generalize cntOf (choices xss) = cn at HCN HI2 hcn hcn1 hzz
    clear hin hin2
    generalize choices xss = ls at HCN HNP HA
    subst hW2
    clear hv h1 hg HIN HAT
    go_enter Try.func32, Try.ntmps32
    go_wp2_with fail
    refine HOK.out.mono ?_
    rintro e w2 ⟨rfl, hb⟩
    have r0 := below_cell hb p0
    have r1 := below_cell hb p1
    have lr := block_lt_of_cell r0
    go_wp2_with fail
    refine (HNP.out _ hb).mono ?_
    rintro e w3 ⟨v3, rs3, rfl, ho3, hb3⟩
    have hr3 := ho3.reads
    obtain ⟨a3, m3, c3, rfl, HM3⟩ := own_shape ho3.outer
    clear ho3
    have hbe := below_trans hb hb3
    have hal : Below w3.heap.size w3 (w3.alloc (.cells #[.int .i64 (n : Int), .slice ao m c, .slice a3 m3 c3] 95)) := below_alloc (Below.refl _ _) _
    have t0 : (w3.alloc (.cells #[.int .i64 (n : Int), .slice ao m c, .slice a3 m3 c3] 95)).cell? ⟨w3.heap.size, 0, none⟩ = some (.int .i64 n) := by go_simp
    have t1 : (w3.alloc (.cells #[.int .i64 (n : Int), .slice ao m c, .slice a3 m3 c3] 95)).cell? ⟨w3.heap.size, 1, none⟩ = some (.slice ao m c) := by go_simp
    have t2 : (w3.alloc (.cells #[.int .i64 (n : Int), .slice ao m c, .slice a3 m3 c3] 95)).cell? ⟨w3.heap.size, 2, none⟩ = some (.slice a3 m3 c3) := by go_simp
    go_wp2_with fail
    refine (HCN.out _ _ (hr3.kept hal)).mono ?_
    rintro e w4 ⟨rfl, hb4⟩
    replace t0 := below_cell hb4 t0
    replace t1 := below_cell hb4 t1
    replace t2 := below_cell hb4 t2
    have lt := block_lt_of_cell t0
    replace hbe := below_trans hbe (below_trans hal hb4)
    have hr4 := hr3.kept (below_trans hal hb4)
    go_wp2_with fail
    refine (HI2.out _).mono ?_
    rintro e w5 ⟨rfl, rfl⟩
    go_wp2_with fail
    refine (HA.out _ _ hbe hr4).mono ?_
    rintro e w6 ⟨v6, rs6, rfl, ho6, hb6⟩
    obtain ⟨a6, m6, c6, rfl, HM6⟩ := own_shape ho6.outer
    have hl9 : w.heap.size + 1 < w4.heap.size := block_lt_of_cell (below_cell hbe p4)
    have HO6 := Lib.hid ho6
    have hbx9 := below_trans hbe hb6
    clear ho6 hr4
    have q4 := below_cell hbx9 p4
    have q5 := below_cell hbx9 p5
    have f4 := (hbx9.frozen (p := ⟨w.heap.size + 1, 0, none⟩) (block_lt_of_cell p4)).trans g4
    have f5 := (hbx9.frozen (p := ⟨w.heap.size + 1, 1, none⟩) (block_lt_of_cell p5)).trans g5
    have hz9 : w.heap.size + 1 < w6.heap.size := block_lt_of_cell q4
    have hbb := below_trans bx hbx9
    have HBB := Lib.hid hbb
    clear hbb hbx9
    go_wp2
    refine bodyPost_ret (v := .tuple #[.agg #[.int .i64 (n : Int), .slice a6 m6 c6], .int .i64 0]) (by simp [results, Try.results32, go_sem, q4, q5, hz9]) rfl ⟨_, rs6, rfl, ?_, by repeat (first | exact HBB.out | refine below_set ?_ (by omega) _ _)⟩
    refine OwnRows.mono (lo := w4.heap.size) ?_ (by omega)
    repeat (first | exact HO6.out | refine OwnRows.set_below ?_ (by first | omega | simp) _ _)

set_option maxRecDepth 100000 in
set_option maxHeartbeats 4000000 in
theorem specColAt_any (st : Int) (v : Value) (xss : List (List Int)) (z : Int) (w : World) (h1 : RowsC w v xss) :
    Calls Try.prog 31 #[.agg #[.int .i64 st, v], .int .i64 z] w (NewAuto2 (caSt st xss z) (caRows st xss z) (caCd st xss z) w) := by
  obtain ⟨ao, m, c, rfl, HM⟩ := h1.rows.shape
  obtain ⟨W2, hW2⟩ : ∃ W2, W2 = (w.alloc (.cells #[.int .i64 st, .slice ao m c] 42)).alloc (.cells #[.int .i64 0, .slice none 0 0] 28) := ⟨_, rfl⟩
  have bx : Below w.heap.size w W2 := by rw [hW2]; exact below_alloc (below_alloc (Below.refl _ _) _) _
  have p0 : W2.cell? ⟨w.heap.size, 0, none⟩ = some (.int .i64 st) := by rw [hW2]; go_simp
  have p1 : W2.cell? ⟨w.heap.size, 1, none⟩ = some (.slice ao m c) := by rw [hW2]; go_simp
  have p4 : W2.cell? ⟨w.heap.size + 1, 0, none⟩ = some (.int .i64 0) := by rw [hW2]; go_simp
  have p5 : W2.cell? ⟨w.heap.size + 1, 1, none⟩ = some (.slice none 0 0) := by rw [hW2]; go_simp
  have g4 : W2.frozen? ⟨w.heap.size + 1, 0, none⟩ = false := by rw [hW2]; go_simp
  have g5 : W2.frozen? ⟨w.heap.size + 1, 1, none⟩ = false := by rw [hW2]; go_simp
  have HOK := Lib.hid (l05Ok_any w.heap.size 0 st _ xss W2 p0 p1 (h1.rows.kept bx))
  cases hv : validR st xss
  · rw [show caSt st xss z = 0 by simp [caSt, caCd, hv], show caRows st xss z = [] by simp [caRows, caCd, hv], show caCd st xss z = 1 by simp [caCd, hv]]
    rw [hv] at HOK
    subst hW2
    clear hv h1
    go_enter Try.func31, Try.ntmps31
    go_wp2_with fail
    refine HOK.out.mono ?_
    rintro e w2 ⟨rfl, hqq⟩
    have hb := hqq.below ((w.alloc (.cells #[.int .i64 st, .slice ao m c] 42)).alloc (.cells #[.int .i64 0, .slice none 0 0] 28)).heap.size
    have hbx9 := hb
    have q4 := below_cell hbx9 p4
    have q5 := below_cell hbx9 p5
    have f4 := (hbx9.frozen (p := ⟨w.heap.size + 1, 0, none⟩) (block_lt_of_cell p4)).trans g4
    have f5 := (hbx9.frozen (p := ⟨w.heap.size + 1, 1, none⟩) (block_lt_of_cell p5)).trans g5
    have hz9 : w.heap.size + 1 < w2.heap.size := block_lt_of_cell q4
    have hbb := below_trans bx hbx9
    have HBB := Lib.hid hbb
    clear hbb hbx9
    go_wp2
    refine bodyPost_ret (v := .tuple #[.agg #[.int .i64 0, .slice none 0 0], .int .i64 1]) (by simp [results, Try.results31, go_sem, q4, q5, hz9]) rfl ⟨_, [], rfl, ownRows_nil _ _, by repeat (first | exact HBB.out | refine below_set ?_ (by omega) _ _)⟩
  obtain ⟨n, d, hg⟩ := goodR_of hv
  obtain rfl := hg.st
  have hn := hg.hi
  have hn1 := hg.lo
  have hd1 := hg.d1
  have hd3 := hg.d3
  rw [hv] at HOK
  have HNP := Lib.hid (fun W (hW : Below W2.heap.size W2 W) => l05Choices_any w.heap.size _ xss W (below_cell hW p1) ((h1.kept bx).kept hW) (by rw [hg.len]; exact hg.hi) (fun s hs => by rw [hg.row s (by rw [← hg.len]; exact hs)]; exact hg.d3))
  have HCN := Lib.hid (fun (u : Value) W (h : Rows3 W u (choices xss)) => l05Count_any u (choices xss) n d W h hg.choices hg.hi)
  have HIN := Lib.hid (fun hi W => l00In_any z 0 hi W)
  have HAT := Lib.hid (fun zn (hzn : zn ≤ 279936) (u : Value) W (hW : Below W2.heap.size W2 W) (h : Rows3 W u (choices xss)) => l05At_any u (choices xss) n d zn W h hg.choices hg.lo hg.hi hg.d1 hg.d3 hzn)
  have hcn : cntOf (choices xss) ≤ 279936 := by unfold cntOf; rw [hg.choices.len]; exact hg.choices.cnt7 hg.hi (Nat.le_refl _)
  have hcn1 : 1 ≤ cntOf (choices xss) := by unfold cntOf; rw [hg.choices.len]; exact (hg.choices.cnt _ (Nat.le_refl _)).1
  cases hin : caIn xss z
  · rw [show caSt n xss z = 0 by simp [caSt, caCd, hv, hin], show caRows n xss z = [] by simp [caRows, caCd, hv, hin], show caCd n xss z = 2 by simp [caCd, hv, hin]]
    have hin2 : inB z 0 ((cntOf (choices xss) : Int) - 1) = false := hin
    have HI2 := Lib.hid (HIN.out ((cntOf (choices xss) : Int) - 1))
    rw [hin2] at HI2
    generalize cntOf (choices xss) = cn at HCN HI2 hcn hcn1 
    clear hin hin2
    generalize choices xss = ls at HCN HNP 
    subst hW2
    clear hv h1 hg HIN HAT
    go_enter Try.func31, Try.ntmps31
    go_wp2_with fail
    refine HOK.out.mono ?_
    rintro e w2 ⟨rfl, hqq⟩
    have hb := hqq.below ((w.alloc (.cells #[.int .i64 (n : Int), .slice ao m c] 42)).alloc (.cells #[.int .i64 0, .slice none 0 0] 28)).heap.size
    go_wp2_with fail
    refine (HNP.out _ hb).mono ?_
    rintro e w3 ⟨v3, rs3, rfl, ho3, hb3⟩
    have hr3 := ho3.reads
    obtain ⟨a3, m3, c3, rfl, HM3⟩ := own_shape ho3.outer
    clear ho3
    have hbe := below_trans hb hb3
    go_wp2_with fail
    refine (HCN.out _ _ hr3).mono ?_
    rintro e w4 ⟨rfl, hb4⟩
    replace hbe := below_trans hbe hb4
    have hr4 := hr3.kept hb4
    go_wp2_with fail
    refine (HI2.out _).mono ?_
    rintro e w5 ⟨rfl, rfl⟩
    have hbx9 := hbe
    have q4 := below_cell hbx9 p4
    have q5 := below_cell hbx9 p5
    have f4 := (hbx9.frozen (p := ⟨w.heap.size + 1, 0, none⟩) (block_lt_of_cell p4)).trans g4
    have f5 := (hbx9.frozen (p := ⟨w.heap.size + 1, 1, none⟩) (block_lt_of_cell p5)).trans g5
    have hz9 : w.heap.size + 1 < w4.heap.size := block_lt_of_cell q4
    have hbb := below_trans bx hbx9
    have HBB := Lib.hid hbb
    clear hbb hbx9
    go_wp2
    refine bodyPost_ret (v := .tuple #[.agg #[.int .i64 0, .slice none 0 0], .int .i64 2]) (by simp [results, Try.results31, go_sem, q4, q5, hz9]) rfl ⟨_, [], rfl, ownRows_nil _ _, by repeat (first | exact HBB.out | refine below_set ?_ (by omega) _ _)⟩
  · have hin2 : inB z 0 ((cntOf (choices xss) : Int) - 1) = true := hin
    have hzz := inB_true.1 hin2
    obtain ⟨zn, rfl⟩ : ∃ zn : Nat, z = (zn : Int) := ⟨z.toNat, by omega⟩
    have HA := Lib.hid (HAT.out zn (by omega))
    rw [show caSt n xss zn = n by simp [caSt, caCd, hv, hin], show caRows n xss zn = colRows (choices xss) d zn by simp only [caRows, caCd, hv, hin, if_true, Int.toNat_natCast]; rw [hg.row 0 hg.lo], show caCd n xss zn = 0 by simp [caCd, hv, hin]]
    generalize colRows (choices xss) d zn = rr at HA ⊢
    have HI2 := Lib.hid (HIN.out ((cntOf (choices xss) : Int) - 1))
    rw [hin2] at HI2
    generalize cntOf (choices xss) = cn at HCN HI2 hcn hcn1 hzz
    clear hin hin2
    generalize choices xss = ls at HCN HNP HA
    subst hW2
    clear hv h1 hg HIN HAT
    go_enter Try.func31, Try.ntmps31
    go_wp2_with fail
    refine HOK.out.mono ?_
    rintro e w2 ⟨rfl, hqq⟩
    have hb := hqq.below ((w.alloc (.cells #[.int .i64 (n : Int), .slice ao m c] 42)).alloc (.cells #[.int .i64 0, .slice none 0 0] 28)).heap.size
    go_wp2_with fail
    refine (HNP.out _ hb).mono ?_
    rintro e w3 ⟨v3, rs3, rfl, ho3, hb3⟩
    have hr3 := ho3.reads
    obtain ⟨a3, m3, c3, rfl, HM3⟩ := own_shape ho3.outer
    clear ho3
    have hbe := below_trans hb hb3
    go_wp2_with fail
    refine (HCN.out _ _ hr3).mono ?_
    rintro e w4 ⟨rfl, hb4⟩
    replace hbe := below_trans hbe hb4
    have hr4 := hr3.kept hb4
    go_wp2_with fail
    refine (HI2.out _).mono ?_
    rintro e w5 ⟨rfl, rfl⟩
    go_wp2_with fail
    refine (HA.out _ _ hbe hr4).mono ?_
    rintro e w6 ⟨v6, rs6, rfl, ho6, hb6⟩
    obtain ⟨a6, m6, c6, rfl, HM6⟩ := own_shape ho6.outer
    have hl9 : w.heap.size + 1 < w4.heap.size := block_lt_of_cell (below_cell hbe p4)
    have HO6 := Lib.hid ho6
    have hbx9 := below_trans hbe hb6
    clear ho6 hr4
    have q4 := below_cell hbx9 p4
    have q5 := below_cell hbx9 p5
    have f4 := (hbx9.frozen (p := ⟨w.heap.size + 1, 0, none⟩) (block_lt_of_cell p4)).trans g4
    have f5 := (hbx9.frozen (p := ⟨w.heap.size + 1, 1, none⟩) (block_lt_of_cell p5)).trans g5
    have hz9 : w.heap.size + 1 < w6.heap.size := block_lt_of_cell q4
    have hbb := below_trans bx hbx9
    have HBB := Lib.hid hbb
    clear hbb hbx9
    go_wp2
    refine bodyPost_ret (v := .tuple #[.agg #[.int .i64 (n : Int), .slice a6 m6 c6], .int .i64 0]) (by simp [results, Try.results31, go_sem, q4, q5, hz9]) rfl ⟨_, rs6, rfl, ?_, by repeat (first | exact HBB.out | refine below_set ?_ (by omega) _ _)⟩
    refine OwnRows.mono (lo := w4.heap.size) ?_ (by omega)
    repeat (first | exact HO6.out | refine OwnRows.set_below ?_ (by first | omega | simp) _ _)

end Go.Proofs.Ytlgnbbfhejjodaa
