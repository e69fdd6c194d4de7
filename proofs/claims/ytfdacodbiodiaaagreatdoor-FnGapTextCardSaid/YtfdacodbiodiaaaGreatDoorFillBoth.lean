/- FillGaps, of the reference and of the program. -/
import Derived.Test.YtfdacodbiodiaaaGreatDoorFillSpec
import Derived.Test.YtfdacodbiodiaaaGreatDoorWithin
namespace Go.Proofs.YtfdacodbiodiaaaGreatDoor
set_option linter.unusedVariables false
set_option linter.unusedSimpArgs false
open Go.ChangeShapes Go.WideShapes Go.ChangeAt Go.RowKit

def fgCd (st : Int) (xss : List (List Int)) (zs : List Int) : Int := if validP st xss = true then (if zs.length = (gapsOf xss).length then (if allIn zs 0 (st - 1) = true then 0 else 2) else 2) else 1
def fgSt (st : Int) (xss : List (List Int)) (zs : List Int) : Int := if fgCd st xss zs = 0 then st else 0
def fgRows (st : Int) (xss : List (List Int)) (zs : List Int) : List (List Int) := if fgCd st xss zs = 0 then fillTo xss zs (gapsOf xss).length else []

theorem bulk_le_all : ∀ (l : List (List Int)) (m : Nat), (∀ j, j < l.length → (l.getD j []).length ≤ m) → bulk2 l ≤ l.length * m := by
  intro l m
  induction l with
  | nil => intro _; simp [bulk2]
  | cons a l ih =>
    intro h
    have h0 : a.length ≤ m := h 0 (by simp)
    have h1 := ih fun j hj => h (j + 1) (by simpa using hj)
    unfold bulk2 at h1 ⊢
    rw [List.map_cons, List.sum_cons, List.length_cons, Nat.succ_mul]
    omega
theorem fgRows_bulk (st : Int) (xss : List (List Int)) (zs : List Int) : bulk2 (fgRows st xss zs) ≤ 100 := by
  unfold fgRows
  split
  · rename_i h
    cases hv : validP st xss
    · simp [fgCd, hv] at h
    · obtain ⟨n, hg⟩ := goodP_of hv
      have hb := bulk_le_all (fillTo xss zs (gapsOf xss).length) 10 fun j hj => by
        rw [fillTo_len] at hj
        rw [fillTo_row, hg.row hj]
        exact hg.hi
      rw [fillTo_len] at hb
      have := hg.len3
      omega
  · simp [bulk2]

set_option maxRecDepth 100000 in
set_option maxHeartbeats 4000000 in
theorem implFill_any (st : Int) (v : Value) (xss : List (List Int)) (u : Value) (zs : List Int) (w : World) (h1 : Rows2 w v xss) (h2 : Ints w u zs) :
    Calls Tryz.prog 17 #[.agg #[.int .i64 st, v], u] w (NewAuto2 (fgSt st xss zs) (fgRows st xss zs) (fgCd st xss zs) w) := by
  obtain ⟨ao, m, c, rfl, HM⟩ := h1.shape
  obtain ⟨ao3, p3, o3, c3, H3⟩ := h2.open
  have hv3 := H3.val
  subst hv3
  have hm3 := H3.len
  obtain ⟨W2, hW2⟩ : ∃ W2, W2 = (w.alloc (.cells #[.int .i64 st, .slice ao m c] 26)).alloc (.cells #[.int .i64 0, .slice none 0 0] 47) := ⟨_, rfl⟩
  have bx : Below w.heap.size w W2 := by rw [hW2]; exact below_alloc (below_alloc (Below.refl _ _) _) _
  have p0 : W2.cell? ⟨w.heap.size, 0, none⟩ = some (.int .i64 st) := by rw [hW2]; go_simp
  have p1 : W2.cell? ⟨w.heap.size, 1, none⟩ = some (.slice ao m c) := by rw [hW2]; go_simp
  have p4 : W2.cell? ⟨w.heap.size + 1, 0, none⟩ = some (.int .i64 0) := by rw [hW2]; go_simp
  have p5 : W2.cell? ⟨w.heap.size + 1, 1, none⟩ = some (.slice none 0 0) := by rw [hW2]; go_simp
  have g4 : W2.frozen? ⟨w.heap.size + 1, 0, none⟩ = false := by rw [hW2]; go_simp
  have g5 : W2.frozen? ⟨w.heap.size + 1, 1, none⟩ = false := by rw [hW2]; go_simp
  have C1 := Lib.hid (validPart_any st _ xss W2 (h1.kept bx))
  cases hv : validP st xss
  · rw [show fgSt st xss zs = 0 by simp [fgSt, fgCd, hv], show fgRows st xss zs = [] by simp [fgRows, fgCd, hv], show fgCd st xss zs = 1 by simp [fgCd, hv]]
    rw [hv] at C1
    subst hW2
    clear hv h1 h2 H3
    go_enter Tryz.func17, Tryz.ntmps17
    go_wp2_with fail
    refine C1.out.mono ?_
    rintro e w1 ⟨rfl, hq⟩
    have q4 := below_cell hq p4
    have q5 := below_cell hq p5
    have f4 := (hq.frozen (p := ⟨w.heap.size + 1, 0, none⟩) (block_lt_of_cell p4)).trans g4
    have f5 := (hq.frozen (p := ⟨w.heap.size + 1, 1, none⟩) (block_lt_of_cell p5)).trans g5
    have hz : w.heap.size + 1 < w1.heap.size := block_lt_of_cell q4
    have hbb := below_trans bx hq
    go_wp2
    exact bodyPost_ret (v := .tuple #[.agg #[.int .i64 0, .slice none 0 0], .int .i64 1]) (by simp [results, Tryz.results17, go_sem, q4, q5, hz]) rfl ⟨_, [], rfl, ownRows_nil _ _, by repeat (first | exact hbb | refine below_set ?_ (by omega) _ _)⟩
  obtain ⟨n, hg⟩ := goodP_of hv
  obtain rfl := hg.st
  have hn10 := hg.hi
  have hn1 := hg.lo
  rw [hv] at C1
  have GP := Lib.hid (fun W (hq : Below w.heap.size w W) => partGaps_any n _ xss n W (h1.kept hq) hg)
  have HAW := Lib.hid (fun W (hq : Below w.heap.size w W) => areWithin_any (.slice ao3 zs.length c3) zs 0 (n - 1) W (h2.kept hq))
  have HFL := Lib.hid (fun (hl : zs.length = (gapsOf xss).length) W (hq : Below w.heap.size w W) => filled_any n _ xss n _ zs W (h1.kept hq) hg (h2.kept hq) hl)
  have hGL : (gapsOf xss).length ≤ 40 := gapsOf_len hg
  by_cases hl : zs.length = (gapsOf xss).length
  · cases hal : allIn zs 0 ((n : Int) - 1)
    · rw [show fgSt n xss zs = 0 by simp [fgSt, fgCd, hv, hl, hal], show fgRows n xss zs = [] by simp [fgRows, fgCd, hv, hl, hal], show fgCd n xss zs = 2 by simp [fgCd, hv, hl, hal]]
      rw [hal] at HAW
      have hne : ((zs.length : Int) != ((gapsOf xss).length : Int)) = false := by simp; omega
      have hs1 := IntWalk.i64_in ((n : Int) - 1) (by omega)
      subst hW2
      clear hv h1 h2 H3 hl hal hg HFL
      go_enter Tryz.func17, Tryz.ntmps17
      go_wp2_with fail
      refine C1.out.mono ?_
      rintro e w1 ⟨rfl, hq⟩
      have q0 := below_cell hq p0
      have q1 := below_cell hq p1
      have hbb := below_trans bx hq
      go_wp2_with fail
      refine (GP.out _ hbb).mono ?_
      rintro e w3 ⟨vg, rfl, hog, hb3⟩
      obtain ⟨ag, mg, cg, rfl, HMg⟩ := own_shape hog
      obtain ⟨rfl⟩ : mg = (gapsOf xss).length := HMg.out
      have r0 := below_cell hb3 q0
      have r1 := below_cell hb3 q1
      have hb13 := below_trans hbb hb3
      clear hog HMg
      go_wp2_with fail
      refine (HAW.out _ hb13).mono ?_
      rintro e w5 ⟨rfl, hb5⟩
      have hq5 := below_trans hq (below_trans hb3 hb5)
      have q4 := below_cell hq5 p4
      have q5 := below_cell hq5 p5
      have f4 := (hq5.frozen (p := ⟨w.heap.size + 1, 0, none⟩) (block_lt_of_cell p4)).trans g4
      have f5 := (hq5.frozen (p := ⟨w.heap.size + 1, 1, none⟩) (block_lt_of_cell p5)).trans g5
      have hz : w.heap.size + 1 < w5.heap.size := block_lt_of_cell q4
      have hbf := below_trans bx hq5
      go_wp2
      exact bodyPost_ret (v := .tuple #[.agg #[.int .i64 0, .slice none 0 0], .int .i64 2]) (by simp [results, Tryz.results17, go_sem, q4, q5, hz]) rfl ⟨_, [], rfl, ownRows_nil _ _, by repeat (first | exact hbf | refine below_set ?_ (by omega) _ _)⟩
    · rw [show fgSt n xss zs = n by simp [fgSt, fgCd, hv, hl, hal], show fgRows n xss zs = fillTo xss zs (gapsOf xss).length by simp [fgRows, fgCd, hv, hl, hal], show fgCd n xss zs = 0 by simp [fgCd, hv, hl, hal]]
      rw [hal] at HAW
      have HF := Lib.hid (HFL.out hl)
      generalize fillTo xss zs (gapsOf xss).length = FF at HF ⊢
      have hne : ((zs.length : Int) != ((gapsOf xss).length : Int)) = false := by simp; omega
      have hs1 := IntWalk.i64_in ((n : Int) - 1) (by omega)
      subst hW2
      clear hv h1 h2 H3 hl hal hg HFL
      go_enter Tryz.func17, Tryz.ntmps17
      go_wp2_with fail
      refine C1.out.mono ?_
      rintro e w1 ⟨rfl, hq⟩
      have q0 := below_cell hq p0
      have q1 := below_cell hq p1
      have hbb := below_trans bx hq
      go_wp2_with fail
      refine (GP.out _ hbb).mono ?_
      rintro e w3 ⟨vg, rfl, hog, hb3⟩
      obtain ⟨ag, mg, cg, rfl, HMg⟩ := own_shape hog
      obtain ⟨rfl⟩ : mg = (gapsOf xss).length := HMg.out
      have r0 := below_cell hb3 q0
      have r1 := below_cell hb3 q1
      have hb13 := below_trans hbb hb3
      clear hog HMg
      go_wp2_with fail
      refine (HAW.out _ hb13).mono ?_
      rintro e w5 ⟨rfl, hb5⟩
      replace r0 := below_cell hb5 r0
      replace r1 := below_cell hb5 r1
      have hb15 := below_trans hb13 hb5
      clear hs1
      go_wp2_with fail
      refine (HF.out _ hb15).mono ?_
      rintro e w7 ⟨v7, rs7, rfl, ho7, hb7⟩
      obtain ⟨a7, m7, c7, rfl, HM7⟩ := own_shape ho7.outer
      have hq5 := below_trans hq (below_trans hb3 (below_trans hb5 hb7))
      have q4 := below_cell hq5 p4
      have q5 := below_cell hq5 p5
      have f4 := (hq5.frozen (p := ⟨w.heap.size + 1, 0, none⟩) (block_lt_of_cell p4)).trans g4
      have f5 := (hq5.frozen (p := ⟨w.heap.size + 1, 1, none⟩) (block_lt_of_cell p5)).trans g5
      have hz : w.heap.size + 1 < w7.heap.size := block_lt_of_cell q4
      have hz5 : w.heap.size + 1 < w5.heap.size := by have := (below_trans hq (below_trans hb3 hb5)).size; simp at this; omega
      have hbf := below_trans bx hq5
      have HO7 := Lib.hid ho7
      clear ho7
      go_wp2
      refine bodyPost_ret (v := .tuple #[.agg #[.int .i64 n, .slice a7 m7 c7], .int .i64 0]) (by simp [results, Tryz.results17, go_sem, q4, q5, hz]) rfl ⟨_, rs7, rfl, ?_, by repeat (first | exact hbf | refine below_set ?_ (by omega) _ _)⟩
      refine OwnRows.mono (lo := w5.heap.size) ?_ (by omega)
      repeat (first | exact HO7.out | refine OwnRows.set_below ?_ (by first | omega | simp) _ _)
  · rw [show fgSt n xss zs = 0 by simp [fgSt, fgCd, hv, hl], show fgRows n xss zs = [] by simp [fgRows, fgCd, hv, hl], show fgCd n xss zs = 2 by simp [fgCd, hv, hl]]
    have hne : ((zs.length : Int) != ((gapsOf xss).length : Int)) = true := by simp; omega
    subst hW2
    clear hv h1 h2 H3 hl hg HFL HAW
    go_enter Tryz.func17, Tryz.ntmps17
    go_wp2_with fail
    refine C1.out.mono ?_
    rintro e w1 ⟨rfl, hq⟩
    have q0 := below_cell hq p0
    have q1 := below_cell hq p1
    have hbb := below_trans bx hq
    go_wp2_with fail
    refine (GP.out _ hbb).mono ?_
    rintro e w3 ⟨vg, rfl, hog, hb3⟩
    obtain ⟨ag, mg, cg, rfl, HMg⟩ := own_shape hog
    obtain ⟨rfl⟩ : mg = (gapsOf xss).length := HMg.out
    have hq5 := below_trans hq hb3
    have q4 := below_cell hq5 p4
    have q5 := below_cell hq5 p5
    have f4 := (hq5.frozen (p := ⟨w.heap.size + 1, 0, none⟩) (block_lt_of_cell p4)).trans g4
    have f5 := (hq5.frozen (p := ⟨w.heap.size + 1, 1, none⟩) (block_lt_of_cell p5)).trans g5
    have hz : w.heap.size + 1 < w3.heap.size := block_lt_of_cell q4
    have hbf := below_trans bx hq5
    clear hog HMg
    go_wp2
    exact bodyPost_ret (v := .tuple #[.agg #[.int .i64 0, .slice none 0 0], .int .i64 2]) (by simp [results, Tryz.results17, go_sem, q4, q5, hz]) rfl ⟨_, [], rfl, ownRows_nil _ _, by repeat (first | exact hbf | refine below_set ?_ (by omega) _ _)⟩

set_option maxRecDepth 100000 in
set_option maxHeartbeats 4000000 in
theorem specFill_any (st : Int) (v : Value) (xss : List (List Int)) (u : Value) (zs : List Int) (w : World) (h1 : Rows2 w v xss) (h2 : Ints w u zs) :
    Calls Tryz.prog 18 #[.agg #[.int .i64 st, v], u] w (NewAuto2 (fgSt st xss zs) (fgRows st xss zs) (fgCd st xss zs) w) := by
  obtain ⟨ao, m, c, rfl, HM⟩ := h1.shape
  obtain ⟨ao3, p3, o3, c3, H3⟩ := h2.open
  have hv3 := H3.val
  subst hv3
  have hm3 := H3.len
  obtain ⟨W2, hW2⟩ : ∃ W2, W2 = (w.alloc (.cells #[.int .i64 st, .slice ao m c] 26)).alloc (.cells #[.int .i64 0, .slice none 0 0] 47) := ⟨_, rfl⟩
  have bx : Below w.heap.size w W2 := by rw [hW2]; exact below_alloc (below_alloc (Below.refl _ _) _) _
  have p0 : W2.cell? ⟨w.heap.size, 0, none⟩ = some (.int .i64 st) := by rw [hW2]; go_simp
  have p1 : W2.cell? ⟨w.heap.size, 1, none⟩ = some (.slice ao m c) := by rw [hW2]; go_simp
  have p4 : W2.cell? ⟨w.heap.size + 1, 0, none⟩ = some (.int .i64 0) := by rw [hW2]; go_simp
  have p5 : W2.cell? ⟨w.heap.size + 1, 1, none⟩ = some (.slice none 0 0) := by rw [hW2]; go_simp
  have g4 : W2.frozen? ⟨w.heap.size + 1, 0, none⟩ = false := by rw [hW2]; go_simp
  have g5 : W2.frozen? ⟨w.heap.size + 1, 1, none⟩ = false := by rw [hW2]; go_simp
  have C1 := Lib.hid (l04Ok_any w.heap.size 0 st _ xss W2 p0 p1 (h1.kept bx))
  cases hv : validP st xss
  · rw [show fgSt st xss zs = 0 by simp [fgSt, fgCd, hv], show fgRows st xss zs = [] by simp [fgRows, fgCd, hv], show fgCd st xss zs = 1 by simp [fgCd, hv]]
    rw [hv] at C1
    subst hW2
    clear hv h1 h2 H3
    go_enter Tryz.func18, Tryz.ntmps18
    go_wp2_with fail
    refine C1.out.mono ?_
    rintro e w1 ⟨rfl, hqq⟩
    have hq := hqq.below ((w.alloc (.cells #[.int .i64 st, .slice ao m c] 26)).alloc (.cells #[.int .i64 0, .slice none 0 0] 47)).heap.size
    have q4 := below_cell hq p4
    have q5 := below_cell hq p5
    have f4 := (hq.frozen (p := ⟨w.heap.size + 1, 0, none⟩) (block_lt_of_cell p4)).trans g4
    have f5 := (hq.frozen (p := ⟨w.heap.size + 1, 1, none⟩) (block_lt_of_cell p5)).trans g5
    have hz : w.heap.size + 1 < w1.heap.size := block_lt_of_cell q4
    have hbb := below_trans bx hq
    go_wp2
    exact bodyPost_ret (v := .tuple #[.agg #[.int .i64 0, .slice none 0 0], .int .i64 1]) (by simp [results, Tryz.results18, go_sem, q4, q5, hz]) rfl ⟨_, [], rfl, ownRows_nil _ _, by repeat (first | exact hbb | refine below_set ?_ (by omega) _ _)⟩
  obtain ⟨n, hg⟩ := goodP_of hv
  obtain rfl := hg.st
  have hn10 := hg.hi
  have hn1 := hg.lo
  rw [hv] at C1
  have GP := Lib.hid (fun W (hq : Below W2.heap.size W2 W) => l04Gaps_any w.heap.size n _ xss n W (below_cell hq p0) (below_cell hq p1) ((h1.kept bx).kept hq) hg)
  have HFL := Lib.hid (fun (hl : zs.length = (gapsOf xss).length) W (hq : Below W2.heap.size W2 W) => l04Fill_any w.heap.size n _ xss n _ zs W (below_cell hq p0) (below_cell hq p1) ((h1.kept bx).kept hq) hg ((h2.kept bx).kept hq) hl)
  have HZC := Lib.hid (fun k (hk : k < zs.length) => H3.cell k hk)
  have HZI := Lib.hid (fun q (hq : q < zs.length) => idx_of Tryz.underlying45 size1_int (c := c3) H3.adr hq .i64)
  have HIN := Lib.hid (fun z W => l00In_any z 0 ((n : Int) - 1) W)
  have hGL : (gapsOf xss).length ≤ 40 := gapsOf_len hg
  by_cases hl : zs.length = (gapsOf xss).length
  · have HBAD : Hid (allIn zs 0 ((n : Int) - 1) = false → fgSt n xss zs = 0 ∧ fgRows n xss zs = [] ∧ fgCd n xss zs = 2) := fun hal => by simp [fgSt, fgRows, fgCd, hv, hl, hal]
    have HGOOD : Hid (allIn zs 0 ((n : Int) - 1) = true → fgSt n xss zs = n ∧ fgRows n xss zs = fillTo xss zs (gapsOf xss).length ∧ fgCd n xss zs = 0) := fun hal => by simp [fgSt, fgRows, fgCd, hv, hl, hal]
    have HF := Lib.hid (HFL.out hl)
    generalize fillTo xss zs (gapsOf xss).length = FF at HF HGOOD
    generalize fgSt n xss zs = rst at HBAD HGOOD ⊢
    generalize fgRows n xss zs = rr at HBAD HGOOD ⊢
    generalize fgCd n xss zs = rcd at HBAD HGOOD ⊢
    have hne : ((zs.length : Int) != ((gapsOf xss).length : Int)) = false := by simp; omega
    have HTK := Lib.hid (fun k (hk : k < zs.length) => allIn_take zs k 0 ((n : Int) - 1) hk)
    have HNO := Lib.hid (fun k (hk : k < zs.length) (hb : inB (zs.getD k 0) 0 ((n : Int) - 1) = false) => allIn_no hk hb)
    have hzl : zs.length ≤ 40 := by omega
    have HS2 : Hid (w.heap.size + 2 = W2.heap.size) := by unfold Hid; rw [hW2]; simp
    subst hW2
    clear hv h1 h2 H3 hl hg HFL
    go_enter Tryz.func18, Tryz.ntmps18
    go_wp2_with fail
    refine C1.out.mono ?_
    rintro e w1 ⟨rfl, hqq⟩
    have hq := hqq.below ((w.alloc (.cells #[.int .i64 n, .slice ao m c] 26)).alloc (.cells #[.int .i64 0, .slice none 0 0] 47)).heap.size
    go_wp2_with fail
    refine (GP.out _ hq).mono ?_
    rintro e w3 ⟨vg, rfl, hog, hb3⟩
    obtain ⟨ag, mg, cg, rfl, HMg⟩ := own_shape hog
    obtain ⟨rfl⟩ : mg = (gapsOf xss).length := HMg.out
    have hq3 := below_trans hq hb3
    have r0 := below_cell hq3 p0
    have r4 := below_cell hq3 p4
    have r5 := below_cell hq3 p5
    have s4 := (hq3.frozen (p := ⟨w.heap.size + 1, 0, none⟩) (block_lt_of_cell p4)).trans g4
    have s5 := (hq3.frozen (p := ⟨w.heap.size + 1, 1, none⟩) (block_lt_of_cell p5)).trans g5
    have HQ3 := Lib.hid hq3
    have bw3 := below_trans bx hq3
    clear hog HMg hq hb3 hqq p0 p1 p4 p5 g4 g5 hq3
    go_wp2
    go_loopw [6] (fun i wr => ∃ k : Nat, k ≤ zs.length ∧ i = .int .i64 k ∧ Hid (allIn (zs.take k) 0 ((n : Int) - 1) = true) ∧ Below w3.heap.size w3 wr) (fun i _ => zs.length - (intOf i).toNat)
    case atStart => exact ⟨0, Nat.zero_le _, rfl, rfl, Below.refl _ _⟩
    case round =>
      obtain ⟨k, hk, rfl, HA, hb⟩ := hrel
      have t0 := below_cell hb r0
      have t4 := below_cell hb r4
      have t5 := below_cell hb r5
      have f4 := (hb.frozen (p := ⟨w.heap.size + 1, 0, none⟩) (block_lt_of_cell r4)).trans s4
      have f5 := (hb.frozen (p := ⟨w.heap.size + 1, 1, none⟩) (block_lt_of_cell r5)).trans s5
      have hbw := below_trans bw3 hb
      have lt0 := block_lt_of_cell t0
      have lt4 : w.heap.size + 1 < wr.heap.size := block_lt_of_cell t4
      by_cases hlt : k < zs.length
      · have i1 := HZI.out k hlt
        have d2 := below_cell hbw (HZC.out k hlt)
        have HT := Lib.hid (HTK.out k hlt)
        have HN := Lib.hid (HNO.out k hlt)
        obtain ⟨z, hz⟩ : ∃ z, z = zs.getD k 0 := ⟨_, rfl⟩
        rw [← hz] at d2 HT HN
        have HI := Lib.hid (fun W => HIN.out z W)
        have hs1 := IntWalk.i64_in ((n : Int) - 1) (by omega)
        clear hz
        cases hin : inB z 0 ((n : Int) - 1)
        · rw [hin] at HI
          obtain ⟨rfl, rfl, rfl⟩ := HBAD.out (HN.out hin)
          clear hin
          go_wp2
          go_quiet ((go_at_call 47; exact Calls.quiet_of_same' (HI.out _)))
          go_wp2
          refine bodyPost_ret (v := .tuple #[.agg #[.int .i64 0, .slice none 0 0], .int .i64 2]) (by simp [results, Tryz.results18, go_sem, t4, t5, lt4]) rfl ⟨_, [], rfl, ownRows_nil _ _, ?_⟩
          repeat (first | exact hbw | exact below_drewN' hbw _ | refine below_set ?_ (by omega) _ _)
        · rw [hin] at HI
          have HA2 : Hid (allIn (zs.take (k + 1)) 0 ((n : Int) - 1) = true) := by unfold Hid; rw [HT.out, HA.out, hin]; rfl
          clear hin
          go_wp2
          go_quiet ((go_at_call 47; exact Calls.quiet_of_same' (HI.out _)))
          go_wp2
          go_roundw
          case rel => exact ⟨k + 1, by omega, by go_num, HA2.out, below_drewN' hb _⟩
          case measure => simp [intOf]; omega
      · obtain rfl : k = zs.length := by omega
        have hA := HA.out
        rw [List.take_length] at hA
        obtain ⟨rfl, rfl, rfl⟩ := HGOOD.out hA
        have HF2 := Lib.hid (HF.out wr (below_trans HQ3.out hb))
        clear hA
        go_wp2_with fail
        refine HF2.out.mono ?_
        rintro e w7 ⟨v7, rs7, rfl, ho7, hb7⟩
        obtain ⟨a7, m7, c7, rfl, HM7⟩ := own_shape ho7.outer
        have q4 := below_cell hb7 t4
        have q5 := below_cell hb7 t5
        have u4 := (hb7.frozen (p := ⟨w.heap.size + 1, 0, none⟩) lt4).trans f4
        have u5 := (hb7.frozen (p := ⟨w.heap.size + 1, 1, none⟩) lt4).trans f5
        have hz : w.heap.size + 1 < w7.heap.size := block_lt_of_cell q4
        have hbf := below_trans hbw hb7
        have HO7 := Lib.hid ho7
        clear ho7
        go_wp2
        refine bodyPost_ret (v := .tuple #[.agg #[.int .i64 n, .slice a7 m7 c7], .int .i64 0]) (by simp [results, Tryz.results18, go_sem, q4, q5, hz]) rfl ⟨_, rs7, rfl, ?_, by repeat (first | exact hbf | refine below_set ?_ (by omega) _ _)⟩
        refine OwnRows.mono (lo := wr.heap.size) ?_ (by omega)
        repeat (first | exact HO7.out | refine OwnRows.set_below ?_ (by first | omega | simp) _ _)
  · rw [show fgSt n xss zs = 0 by simp [fgSt, fgCd, hv, hl], show fgRows n xss zs = [] by simp [fgRows, fgCd, hv, hl], show fgCd n xss zs = 2 by simp [fgCd, hv, hl]]
    have hne : ((zs.length : Int) != ((gapsOf xss).length : Int)) = true := by simp; omega
    subst hW2
    clear hv h1 h2 H3 hl hg HFL
    go_enter Tryz.func18, Tryz.ntmps18
    go_wp2_with fail
    refine C1.out.mono ?_
    rintro e w1 ⟨rfl, hqq⟩
    have hq := hqq.below ((w.alloc (.cells #[.int .i64 n, .slice ao m c] 26)).alloc (.cells #[.int .i64 0, .slice none 0 0] 47)).heap.size
    go_wp2_with fail
    refine (GP.out _ hq).mono ?_
    rintro e w3 ⟨vg, rfl, hog, hb3⟩
    obtain ⟨ag, mg, cg, rfl, HMg⟩ := own_shape hog
    obtain ⟨rfl⟩ : mg = (gapsOf xss).length := HMg.out
    have hq5 := below_trans hq hb3
    have q4 := below_cell hq5 p4
    have q5 := below_cell hq5 p5
    have f4 := (hq5.frozen (p := ⟨w.heap.size + 1, 0, none⟩) (block_lt_of_cell p4)).trans g4
    have f5 := (hq5.frozen (p := ⟨w.heap.size + 1, 1, none⟩) (block_lt_of_cell p5)).trans g5
    have hz : w.heap.size + 1 < w3.heap.size := block_lt_of_cell q4
    have hbf := below_trans bx hq5
    clear hog HMg
    go_wp2
    exact bodyPost_ret (v := .tuple #[.agg #[.int .i64 0, .slice none 0 0], .int .i64 2]) (by simp [results, Tryz.results18, go_sem, q4, q5, hz]) rfl ⟨_, [], rfl, ownRows_nil _ _, by repeat (first | exact hbf | refine below_set ?_ (by omega) _ _)⟩

end Go.Proofs.YtfdacodbiodiaaaGreatDoor
