/- TrapCompletion, of the program. -/
import Derived.Test.YtinkjoecadnlbaaTrapSpec
import Derived.Test.YtinkjoecadnlbaaRepeat
import Derived.Deep.RegionHeld3
import Derived.Deep.DeepCutAuto
import Derived.Deep.RegionLaw
namespace Go.Proofs.Ytinkjoecadnlbaa
set_option linter.unusedVariables false
set_option linter.unusedSimpArgs false
open Go.ChangeShapes Go.WideShapes Go.ChangeAt Go.RowKit

/-- block b is none of the rows' -/
def NotIn (b : Nat) (rs : List Value) : Prop := ∀ j, j < rs.length → some b ≠ (rs.getD j undef).ownBlock
theorem NotIn.set {b k B : Nat} {rs : List Value} {v : Value} (h : NotIn b rs) (hs : SameOrNew (rs.getD k undef) v B) (hb : b < B) (hk : k < rs.length) : NotIn b (rs.set k v) := by
  intro j hj e
  rw [List.length_set] at hj
  by_cases hjk : j = k
  · subst hjk
    rw [getD_set_same _ _ _ _ hj] at e
    rcases hs with hs | ⟨q, hq, hB⟩
    · exact h j hj (e.trans hs)
    · rw [hq] at e
      cases e
      omega
  · rw [getD_set_other _ _ _ _ _ hjk] at e
    exact h j hj e

theorem OwnRows.set_other {w : World} {lo : Nat} {g n cap : Nat} {rs : List Value} {zss : List (List Int)} (h : OwnRows w lo (.slice (some ⟨g, 0, none⟩) n cap) rs zss) {b : Nat} (hb : b ≠ g) (hn : NotIn b rs) {o : Nat} (u : Value) : OwnRows (w.setCell ⟨b, o, none⟩ u) lo (.slice (some ⟨g, 0, none⟩) n cap) rs zss := by
  have hl := h.len
  have hg : w.grownBy (w.setCell ⟨b, o, none⟩ u) (some b) := ⟨rfl, rfl, rfl, by simp, fun k hk hne => Below.heap_setCell w _ _ _ (fun e => hne (by rw [e]))⟩
  exact ⟨h.outer.kept hg (.inr fun e => hb (by simpa [Value.ownBlock] using e.symm)), fun k hk => (h.row k hk).kept hg (.inr fun e => hn k (by omega) e.symm), h.apart⟩

/-- a row has grown, and lies at its place again -/
theorem OwnRows.regrown {w w' : World} {lo g cap n : Nat} {rs : List Value} {zss : List (List Int)} (h : OwnRows w lo (.slice (some ⟨g, 0, none⟩) n cap) rs zss) (hn : n = zss.length) {k : Nat} (hk : k < zss.length) {v' : Value} {ys : List Int}
    (hg : w.grownBy w' (rs.getD k undef).ownBlock) (ho : w'.ownsRow lo 2 1 v' ys.length (ys.map (Value.int .i64))) (hs : SameOrNew (rs.getD k undef) v' w.heap.size) :
    OwnRows (w'.setCell ⟨g, k, none⟩ v') lo (.slice (some ⟨g, 0, none⟩) n cap) (rs.set k v') (zss.set k ys) ∧ w'.grownBy (w'.setCell ⟨g, k, none⟩ v') (some g) := by
  have hlen := h.len
  subst hn
  have hou := own_grown h.outer (h.row k hk) hg rfl (by decide)
  obtain ⟨h1, h2⟩ := hou.stored k v'
  have hne : ∀ j, j < zss.length → j ≠ k → (rs.getD j undef).ownBlock = none ∨ (rs.getD j undef).ownBlock ≠ (rs.getD k undef).ownBlock := fun j hj hjk => by
    rcases Nat.lt_or_gt_of_ne hjk with hlt | hgt
    · exact h.apart j k hlt hk
    · exact apart_symm (h.apart k j hgt hj)
  have hold : ∀ j, j < zss.length → j ≠ k → w'.ownsRow lo 2 1 (rs.getD j undef) (zss.getD j []).length ((zss.getD j []).map (Value.int .i64)) ∧ ((rs.getD j undef).ownBlock = none ∨ (rs.getD j undef).ownBlock ≠ v'.ownBlock) := fun j hj hjk => push_other hg hs (h.row j hj) (hne j hj hjk)
  refine ⟨⟨by rw [List.length_set]; exact h1, fun j hj => ?_, fun i j hij hj => ?_⟩, h2⟩
  · rw [List.length_set] at hj
    by_cases hjk : j = k
    · subst hjk
      rw [getD_set_same _ _ _ _ hj, getD_set_same _ _ _ _ (by omega)]
      exact own_grown ho hou h2 rfl (by decide)
    · rw [getD_set_other _ _ _ _ _ hjk, getD_set_other _ _ _ _ _ hjk]
      exact own_grown (hold j hj hjk).1 hou h2 rfl (by decide)
  · rw [List.length_set] at hj
    by_cases hik : i = k
    · subst hik
      rw [getD_set_same _ _ _ _ (by omega), getD_set_other _ _ _ _ _ (by omega)]
      exact apart_symm (hold j hj (by omega)).2
    · rw [getD_set_other _ _ _ _ _ hik]
      by_cases hjk : j = k
      · subst hjk
        rw [getD_set_same _ _ _ _ (by omega)]
        exact (hold i (by omega) hik).2
      · rw [getD_set_other _ _ _ _ _ hjk]
        exact h.apart i j hij hj

/-- the first k rows have got their last number -/
def tcTo (n : Nat) (xss : List (List Int)) (k : Nat) : List (List Int) := (xss.take k).map (tcRow n) ++ (xss.drop k).map (trapRow n)
theorem tcTo_zero (n : Nat) (xss : List (List Int)) : tcTo n xss 0 = xss.map (trapRow n) := by simp [tcTo]
theorem tcTo_all (n : Nat) (xss : List (List Int)) : tcTo n xss xss.length = xss.map (tcRow n) := by simp [tcTo]
theorem tcTo_len (n : Nat) (xss : List (List Int)) (k : Nat) : (tcTo n xss k).length = xss.length := by simp [tcTo]; omega
theorem tcTo_at {n : Nat} {xss : List (List Int)} {k : Nat} (h : k < xss.length) : (tcTo n xss k).getD k [] = trapRow n (xss.getD k []) := by
  unfold tcTo
  rw [List.getD_eq_getElem?_getD, List.getElem?_append_right (by simp; omega)]
  simp [List.getD_eq_getElem?_getD, Nat.min_eq_left (Nat.le_of_lt h), h]
theorem tcTo_succ {n : Nat} {xss : List (List Int)} {k : Nat} (h : k < xss.length) : (tcTo n xss k).set k (tcRow n (xss.getD k [])) = tcTo n xss (k + 1) := by
  unfold tcTo
  rw [List.set_append_right _ _ (by simp; omega), List.drop_eq_getElem_cons h, List.map_cons]
  simp only [List.length_map, List.length_take, Nat.min_eq_left (Nat.le_of_lt h), Nat.sub_self, List.set_cons_zero]
  rw [List.take_succ_eq_append_getElem h, List.map_append, List.append_assoc]
  simp [List.getD_eq_getElem?_getD, h]

theorem tcRows_bulk (st : Int) (xss : List (List Int)) : bulk2 (tcRows st xss) ≤ 100 := by
  unfold tcRows
  split
  · rename_i h
    cases hv : validP st xss
    · simp [tcCd, hv] at h
    · obtain ⟨n, hg⟩ := goodP_of hv
      have hb : ∀ (l : List (List Int)) (m : Nat), (∀ j, j < l.length → (l.getD j []).length ≤ m) → bulk2 l ≤ l.length * m := by
        intro l m
        induction l with
        | nil => intro _; simp [bulk2]
        | cons a l ih =>
          intro h
          have h0 : a.length ≤ m := h 0 (by simp)
          have h1 := ih fun j hj => h (j + 1) (by simpa using hj)
          unfold bulk2 at h1 ⊢
          rw [List.map_cons, List.sum_cons, List.length_cons, Nat.succ_mul]
          omega
      have := hb (xss.map (tcRow st.toNat)) 11 fun j hj => by
        rw [List.length_map] at hj
        have e : (xss.map (tcRow st.toNat)).getD j [] = tcRow st.toNat (xss.getD j []) := by simp [List.getD_eq_getElem?_getD, hj]
        rw [e, tcRow, List.length_append, trapRow_len, hg.row hj]
        have := hg.hi
        simp; omega
      rw [List.length_map] at this
      have := hg.len3
      omega
  · simp [bulk2]

set_option maxRecDepth 100000 in
set_option maxHeartbeats 4000000 in
theorem implTrap_any (st : Int) (v : Value) (xss : List (List Int)) (w : World) (h1 : Rows2 w v xss) :
    Calls Try.prog 7 #[.agg #[.int .i64 st, v]] w (NewAuto2 (tcSt st xss) (tcRows st xss) (tcCd st xss) w) := by
  obtain ⟨ao, m, c, rfl, HM⟩ := h1.shape
  obtain ⟨W2, hW2⟩ : ∃ W2, W2 = (w.alloc (.cells #[.int .i64 st, .slice ao m c] 29)).alloc (.cells #[.int .i64 0, .slice none 0 0] 26) := ⟨_, rfl⟩
  have bx : Below w.heap.size w W2 := by rw [hW2]; exact below_alloc (below_alloc (Below.refl _ _) _) _
  have p0 : W2.cell? ⟨w.heap.size, 0, none⟩ = some (.int .i64 st) := by rw [hW2]; go_simp
  have p1 : W2.cell? ⟨w.heap.size, 1, none⟩ = some (.slice ao m c) := by rw [hW2]; go_simp
  have p4 : W2.cell? ⟨w.heap.size + 1, 0, none⟩ = some (.int .i64 0) := by rw [hW2]; go_simp
  have p5 : W2.cell? ⟨w.heap.size + 1, 1, none⟩ = some (.slice none 0 0) := by rw [hW2]; go_simp
  have g4 : W2.frozen? ⟨w.heap.size + 1, 0, none⟩ = false := by rw [hW2]; go_simp
  have g5 : W2.frozen? ⟨w.heap.size + 1, 1, none⟩ = false := by rw [hW2]; go_simp
  have C1 := Lib.hid (validPart_any st _ xss W2 (h1.kept bx))
  cases hv : validP st xss
  · rw [show tcSt st xss = 0 by simp [tcSt, tcCd, hv], show tcRows st xss = [] by simp [tcRows, tcCd, hv], show tcCd st xss = 1 by simp [tcCd, hv]]
    rw [hv] at C1
    subst hW2
    clear hv h1
    go_enter Try.func7, Try.ntmps7
    go_wp2_with fail
    refine C1.out.mono ?_
    rintro e w1 ⟨rfl, hq⟩
    have q4 := below_cell hq p4
    have q5 := below_cell hq p5
    have f4 := (hq.frozen (p := ⟨w.heap.size + 1, 0, none⟩) (block_lt_of_cell p4)).trans g4
    have f5 := (hq.frozen (p := ⟨w.heap.size + 1, 1, none⟩) (block_lt_of_cell p5)).trans g5
    have hz : w.heap.size + 1 < w1.heap.size := block_lt_of_cell q4
    have hbb := below_trans bx hq
    go_wp2
    exact bodyPost_ret (v := .tuple #[.agg #[.int .i64 0, .slice none 0 0], .int .i64 1]) (by simp [results, Try.results7, go_sem, q4, q5, hz]) rfl ⟨_, [], rfl, ownRows_nil _ _, by repeat (first | exact hbb | refine below_set ?_ (by omega) _ _)⟩
  obtain ⟨n, hg⟩ := goodP_of hv
  obtain rfl := hg.st
  have hn10 := hg.hi
  have hn1 := hg.lo
  have hl1 : 0 < xss.length := by have := hg.len1; omega
  have hl3 := hg.len3
  rw [hv] at C1
  by_cases h10 : (n : Int) = 10
  · have hcd : tcCd n xss = 3 := by unfold tcCd; rw [if_pos hv, if_pos h10]
    rw [show tcSt n xss = 0 by unfold tcSt; rw [hcd]; rfl, show tcRows n xss = [] by unfold tcRows; rw [hcd]; rfl, hcd]
    have he : ((n : Int) == 10) = true := by simp; omega
    subst hW2
    clear hv h1 h10 hg hcd
    go_enter Try.func7, Try.ntmps7
    go_wp2_with fail
    refine C1.out.mono ?_
    rintro e w1 ⟨rfl, hq⟩
    have q0 := below_cell hq p0
    have q4 := below_cell hq p4
    have q5 := below_cell hq p5
    have f4 := (hq.frozen (p := ⟨w.heap.size + 1, 0, none⟩) (block_lt_of_cell p4)).trans g4
    have f5 := (hq.frozen (p := ⟨w.heap.size + 1, 1, none⟩) (block_lt_of_cell p5)).trans g5
    have hz : w.heap.size + 1 < w1.heap.size := block_lt_of_cell q4
    have hbb := below_trans bx hq
    go_wp2
    exact bodyPost_ret (v := .tuple #[.agg #[.int .i64 0, .slice none 0 0], .int .i64 3]) (by simp [results, Try.results7, go_sem, q4, q5, hz]) rfl ⟨_, [], rfl, ownRows_nil _ _, by repeat (first | exact hbb | refine below_set ?_ (by omega) _ _)⟩
  · have hcd : tcCd n xss = 0 := by unfold tcCd; rw [if_pos hv, if_neg h10]
    rw [show tcSt n xss = (n : Int) + 1 by unfold tcSt; rw [hcd]; rfl, show tcRows n xss = xss.map (tcRow n) by unfold tcRows; rw [hcd]; rfl, hcd]
    have he : ((n : Int) == 10) = false := by simp; omega
    have hn9 : n < 10 := by omega
    have hGL : (gapsOf xss).length ≤ 40 := gapsOf_len hg
    have GP := Lib.hid (fun W (hq : Below w.heap.size w W) => partGaps_any n _ xss n W (h1.kept hq) hg)
    have HFL0 := Lib.hid (fun (u : Value) W (hq : Below w.heap.size w W) (hu : Ints W u (List.replicate (gapsOf xss).length (n : Int))) => filled_any n _ xss n u _ W (h1.kept hq) hg hu (by rw [List.length_replicate]))
    rw [fillTo_all hg _ (n : Int) (fun i hi => by simp [List.getD_eq_getElem?_getD, hi])] at HFL0
    have hRL : ∀ k, k < xss.length → (trapRow (n : Int) (xss.getD k [])).length = n := fun k hk => by rw [trapRow_len, hg.row hk]
    have HRL := Lib.hid hRL
    have HTA := Lib.hid (fun k (hk : k < xss.length) => tcTo_at (n := n) hk)
    have HTS := Lib.hid (fun k (hk : k < xss.length) => tcTo_succ (n := n) hk)
    generalize gapsOf xss = GS at GP HFL0 hGL
    obtain rfl : m = xss.length := HM.out
    subst hW2
    clear hv h1 h10 hg hcd hRL HM
    go_enter Try.func7, Try.ntmps7
    go_wp2_with fail
    refine C1.out.mono ?_
    rintro e w1 ⟨rfl, hq⟩
    have q0 := below_cell hq p0
    have q1 := below_cell hq p1
    have q4 := below_cell hq p4
    have q5 := below_cell hq p5
    have f4 := (hq.frozen (p := ⟨w.heap.size + 1, 0, none⟩) (block_lt_of_cell p4)).trans g4
    have f5 := (hq.frozen (p := ⟨w.heap.size + 1, 1, none⟩) (block_lt_of_cell p5)).trans g5
    have bw1 := below_trans bx hq
    have hz0 : w.heap.size < w1.heap.size := block_lt_of_cell q0
    have hz1 : w.heap.size + 1 < w1.heap.size := block_lt_of_cell q4
    have GP1 := Lib.hid (fun W (hW : Below w1.heap.size w1 W) => GP.out W (below_trans bw1 hW))
    have FL1 := Lib.hid (fun u W (hW : Below w1.heap.size w1 W) hu => HFL0.out u W (below_trans bw1 hW) hu)
    clear p0 p1 p4 p5 g4 g5 hq C1 GP HFL0
    go_upto_region 5 with fail
    go_cut [4] (fun sa wx => ∃ (tb og oc : Nat) (rs : List Value), sa = .pointer (some ⟨tb, 0, none⟩) ∧ wx.cell? ⟨tb, 0, none⟩ = some (.int .i64 n) ∧ wx.cell? ⟨tb, 1, none⟩ = some (.slice (some ⟨og, 0, none⟩) xss.length oc) ∧ wx.frozen? ⟨tb, 0, none⟩ = false ∧ wx.frozen? ⟨tb, 1, none⟩ = false ∧ OwnRows wx w1.heap.size (.slice (some ⟨og, 0, none⟩) xss.length oc) rs (xss.map (trapRow n)) ∧ NotIn tb rs ∧ tb ≠ og ∧ w1.heap.size ≤ tb ∧ Below w1.heap.size w1 wx)
    case first =>
      have : w.heap.size < w1.heap.size + 1 := by omega
      have : w.heap.size < w1.heap.size + 2 := by omega
      have : w.heap.size + 1 < w1.heap.size + 1 := by omega
      have : w.heap.size + 1 < w1.heap.size + 2 := by omega
      go_region_held3 (fun w' => Below w1.heap.size w1 w' ∧ ∀ b o, b < w1.heap.size → w'.cell? ⟨b, o, none⟩ = w1.cell? ⟨b, o, none⟩) (first | exact held_start | assumption | exact held_nx (by assumption) (by assumption) | exact held_alloc (by assumption) | exact held_set (held_set (by assumption) (by first | omega | (simp; done) | (simp; omega))) (by first | omega | (simp; done) | (simp; omega)) | exact held_set (by assumption) (by first | omega | (simp; done) | (simp; omega)) | exact held_with (by repeat (first | exact Below.refl _ _ | refine Below.drew ?_ | refine below_alloc ?_ _ | refine below_trans ?_ (by assumption)))) (first | (go_simp; go_at_call 19; refine (GP1.out _ (And.left (by assumption))).mono ?_; rintro e w3 ⟨vg, rfl, hog, hb3⟩; obtain ⟨ag, mg, cg, rfl, HMg⟩ := own_shape hog; (have HMg2 : mg = GS.length := HMg.out); subst HMg2; obtain ⟨hct, hft⟩ := bcell hb3; have hz3 := hb3.size; (try simp at hz3); (try have : w.heap.size < w3.heap.size := by omega); (try have : w.heap.size < w3.heap.size + 1 := by omega); (try have : w.heap.size < w3.heap.size + 2 := by omega); (try have : w.heap.size + 1 < w3.heap.size := by omega); (try have : w.heap.size + 1 < w3.heap.size + 1 := by omega); (try have : w.heap.size + 1 < w3.heap.size + 2 := by omega); (try have : w1.heap.size < w3.heap.size := by omega); (try have : w1.heap.size < w3.heap.size + 1 := by omega); (try have : w1.heap.size < w3.heap.size + 2 := by omega); (try have : w1.heap.size + 1 < w3.heap.size := by omega); (try have : w1.heap.size + 1 < w3.heap.size + 1 := by omega); (try have : w1.heap.size + 1 < w3.heap.size + 2 := by omega); (try have : w1.heap.size + 2 < w3.heap.size := by omega); (try have : w1.heap.size + 2 < w3.heap.size + 1 := by omega); (try have : w1.heap.size + 2 < w3.heap.size + 2 := by omega)) | (go_simp; go_at_call 18; refine (repeat_any _ GS.length n _ hGL (by go_simp)).mono ?_; rintro e w4 ⟨v4, rfl, ho4, hb4⟩; obtain ⟨a4, m4, c4, rfl, HM4⟩ := own_shape ho4; obtain ⟨hct4, hft4⟩ := bcell hb4; have hz4 := hb4.size; (try simp at hz4); (try have : w.heap.size < w4.heap.size := by omega); (try have : w.heap.size < w4.heap.size + 1 := by omega); (try have : w.heap.size < w4.heap.size + 2 := by omega); (try have : w.heap.size + 1 < w4.heap.size := by omega); (try have : w.heap.size + 1 < w4.heap.size + 1 := by omega); (try have : w.heap.size + 1 < w4.heap.size + 2 := by omega); (try have : w1.heap.size < w4.heap.size := by omega); (try have : w1.heap.size < w4.heap.size + 1 := by omega); (try have : w1.heap.size < w4.heap.size + 2 := by omega); (try have : w1.heap.size + 1 < w4.heap.size := by omega); (try have : w1.heap.size + 1 < w4.heap.size + 1 := by omega); (try have : w1.heap.size + 1 < w4.heap.size + 2 := by omega); (try have : w1.heap.size + 2 < w4.heap.size := by omega); (try have : w1.heap.size + 2 < w4.heap.size + 1 := by omega); (try have : w1.heap.size + 2 < w4.heap.size + 2 := by omega); (try have : w3.heap.size < w4.heap.size := by omega); (try have : w3.heap.size < w4.heap.size + 1 := by omega); (try have : w3.heap.size < w4.heap.size + 2 := by omega); (try have : w3.heap.size + 1 < w4.heap.size := by omega); (try have : w3.heap.size + 1 < w4.heap.size + 1 := by omega); (try have : w3.heap.size + 1 < w4.heap.size + 2 := by omega); (try have : w3.heap.size + 2 < w4.heap.size := by omega); (try have : w3.heap.size + 2 < w4.heap.size + 1 := by omega); (try have : w3.heap.size + 2 < w4.heap.size + 2 := by omega)) | (go_simp; go_at_call 17; refine (FL1.out _ _ (And.left (by assumption)) (by first | exact ints_of_own (by assumption) | exact (ints_of_own (by assumption)).kept (by repeat (first | exact Below.refl _ _ | refine Below.drew ?_ | refine below_alloc ?_ _ | refine below_trans ?_ (by assumption))))).mono ?_; rintro e w6 ⟨v6, rs6, rfl, ho6, hb6⟩; obtain ⟨og, oc, rfl, _⟩ := own_some ho6.outer (by simp; omega); obtain ⟨hct6, hft6⟩ := bcell hb6; have hz6 := hb6.size; (try simp at hz6); (try have : w.heap.size < w6.heap.size := by omega); (try have : w.heap.size < w6.heap.size + 1 := by omega); (try have : w.heap.size < w6.heap.size + 2 := by omega); (try have : w.heap.size + 1 < w6.heap.size := by omega); (try have : w.heap.size + 1 < w6.heap.size + 1 := by omega); (try have : w.heap.size + 1 < w6.heap.size + 2 := by omega); (try have : w1.heap.size < w6.heap.size := by omega); (try have : w1.heap.size < w6.heap.size + 1 := by omega); (try have : w1.heap.size < w6.heap.size + 2 := by omega); (try have : w1.heap.size + 1 < w6.heap.size := by omega); (try have : w1.heap.size + 1 < w6.heap.size + 1 := by omega); (try have : w1.heap.size + 1 < w6.heap.size + 2 := by omega); (try have : w1.heap.size + 2 < w6.heap.size := by omega); (try have : w1.heap.size + 2 < w6.heap.size + 1 := by omega); (try have : w1.heap.size + 2 < w6.heap.size + 2 := by omega); (try have : w3.heap.size < w6.heap.size := by omega); (try have : w3.heap.size < w6.heap.size + 1 := by omega); (try have : w3.heap.size < w6.heap.size + 2 := by omega); (try have : w3.heap.size + 1 < w6.heap.size := by omega); (try have : w3.heap.size + 1 < w6.heap.size + 1 := by omega); (try have : w3.heap.size + 1 < w6.heap.size + 2 := by omega); (try have : w3.heap.size + 2 < w6.heap.size := by omega); (try have : w3.heap.size + 2 < w6.heap.size + 1 := by omega); (try have : w3.heap.size + 2 < w6.heap.size + 2 := by omega); (try have : w4.heap.size < w6.heap.size := by omega); (try have : w4.heap.size < w6.heap.size + 1 := by omega); (try have : w4.heap.size < w6.heap.size + 2 := by omega); (try have : w4.heap.size + 1 < w6.heap.size := by omega); (try have : w4.heap.size + 1 < w6.heap.size + 1 := by omega); (try have : w4.heap.size + 1 < w6.heap.size + 2 := by omega); (try have : w4.heap.size + 2 < w6.heap.size := by omega); (try have : w4.heap.size + 2 < w6.heap.size + 1 := by omega); (try have : w4.heap.size + 2 < w6.heap.size + 2 := by omega)))
      all_goals
        rename Below w1.heap.size w1 _ ∧ _ => hS
        have hin := ho6.within
        have hlen6 : rs6.length = (xss.map (trapRow (n : Int))).length := ho6.len
        have ho61 := hin.outer og rfl
        have hrow6 := hin.row
        rw [← hlen6] at hrow6
        (try simp at ho61)
        (try simp at hrow6)
        have HIN := Lib.hid hrow6
        have HO6 := Lib.hid ho6
        rw [List.length_map] at HO6
        have hl6 := HO6.out.outer
        clear hrow6 hin hlen6
        go_wp2_with fail
        go_meet
        refine ⟨_, og, oc, rs6, rfl, ?_, ?_, ?_, ?_, ?_, ?_, ?_, ?_, hS.1⟩
        · first | (go_simp; done) | (refine (World.cell?_setCell_other _ _ _ _ (by simp)).trans (World.cell?_setCell_same _ _ _ (u := .int .i64 0) ?_); go_simp; done)
        · first | (go_simp; done) | (refine World.cell?_setCell_same _ _ _ (u := .slice none 0 0) ?_; go_simp; done)
        · go_simp
        · go_simp
        · first
            | exact (HO6.out.alloc _).mono (by first | omega | (simp; done) | (simp; omega))
            | exact (HO6.out.below (below_set (below_set (below_alloc (Below.refl _ _) _) (by first | omega | (simp; done) | (simp; omega)) _ _) (by first | omega | (simp; done) | (simp; omega)) _ _)).mono (by first | omega | (simp; done) | (simp; omega))
            | exact ((HO6.out.set_below (by first | omega | (simp; done) | (simp; omega)) _ _).set_below (by first | omega | (simp; done) | (simp; omega)) _ _).mono (by first | omega | (simp; done) | (simp; omega))
        · intro j hj e
          have := HIN.out j hj _ e.symm
          omega
        · omega
        · omega
    case rest =>
      obtain ⟨tb, og, oc, rs0, rfl, k0, k1, g0, g1, ho0, hni0, htg, htl, hbc⟩ := hcut
      have HO0 : Hid (∃ rs : List Value, OwnRows (wc.setCell ⟨tb, 0, none⟩ (.int .i64 ((n : Int) + 1))) w1.heap.size (.slice (some ⟨og, 0, none⟩) xss.length oc) rs (tcTo n xss 0) ∧ NotIn tb rs) := by
        refine ⟨rs0, ?_, hni0⟩
        rw [tcTo_zero]
        exact ho0.set_other htg hni0 (.int .i64 ((n : Int) + 1))
      have hbc1 : Below w1.heap.size w1 (wc.setCell ⟨tb, 0, none⟩ (.int .i64 ((n : Int) + 1))) := below_set hbc htl _ _
      have lt0 := block_lt_of_cell k0
      have hne0 : tb ≠ w.heap.size := by omega
      have m0 := Below.cellOf hbc q0 hz0
      clear ho0 hni0
      go_wp2
      go_loopw [32] (fun i wr => ∃ k : Nat, k ≤ xss.length ∧ i = .int .i64 k ∧ Hid (∃ rs : List Value, OwnRows wr w1.heap.size (.slice (some ⟨og, 0, none⟩) xss.length oc) rs (tcTo n xss k) ∧ NotIn tb rs) ∧ wr.cell? ⟨tb, 0, none⟩ = some (.int .i64 ((n : Int) + 1)) ∧ wr.cell? ⟨tb, 1, none⟩ = some (.slice (some ⟨og, 0, none⟩) xss.length oc) ∧ Below w1.heap.size w1 wr) (fun i _ => xss.length - (intOf i).toNat)
      case atStart => exact ⟨0, Nat.zero_le _, rfl, HO0.out, by go_simp, by go_simp, hbc1⟩
      case round =>
        obtain ⟨k, hk, rfl, HO, j0, j1, hb⟩ := hrel
        have r0 := Below.cellOf hb q0 hz0
        obtain ⟨rs, ho, hni⟩ := HO.out
        by_cases hlt : k < xss.length
        · have hlz : (tcTo n xss k).length = xss.length := tcTo_len _ _ _
          have hrk := ho.row k (by omega)
          rw [HTA.out k hlt, HRL.out k hlt] at hrk
          have hrl := ho.len
          have hou := ho.outer
          rw [hlz] at hou
          have c0 := hou.cellAt k (by omega)
          have f0 := hou.frozenAt k
          rw [show rs[k]? = some (rs.getD k undef) by rw [List.getD_eq_getElem?_getD, List.getElem?_eq_getElem (by omega)]; rfl] at c0
          have i1 := idx_of Try.underlying22 size1_ints (ao := some ⟨og, 0, none⟩) (b := og) (o := 0) (c := oc) (fun _ => rfl) hlt .i64
          rw [Nat.zero_add] at i1
          obtain ⟨rv, hrv⟩ : ∃ rv, rv = rs.getD k undef := ⟨_, rfl⟩
          rw [← hrv] at c0 hrk
          obtain ⟨ar, mr, cr, rfl, HMr⟩ := own_shape hrk
          obtain rfl : mr = n := HMr.out
          have HRK := Lib.hid hrk
          have HRV := Lib.hid hrv
          have HOW := Lib.hid ho
          have HNI := Lib.hid hni
          have HOU := Lib.hid hou
          have HLZ := Lib.hid hlz
          have hkl : Hid (k < rs.length) := by unfold Hid; omega
          have hbd := hb.drew
          have hlow := hb.size
          have lj := block_lt_of_cell j0
          have lo1 := block_lt_of_cell c0
          clear hrl hou ho hni HO hrk hrv hlz HMr
          go_wp2
          go_region_law (refine step_push (v := .slice ar mr cr) elem_int rfl (.tmp 42) (.tmp 45) rfl w1.heap.size rfl HRK.out _ rfl rfl (by unfold maxLen; omega) (by omega) hlow ?_; intro v6 w6 ho6 hg6 hs6; obtain ⟨a6, m6, c6, rfl, HM6⟩ := own_shape ho6; have q6 : w6.cell? ⟨og, k, none⟩ = some (.slice ar mr cr) := (World.cell?_of_block (hg6.block og lo1 (fun e => by rcases own_ne HRK.out HOU.out (by decide) with h | h; (rw [h] at e; cases e); exact h e.symm))).trans c0; have s6 : w6.frozen? ⟨og, k, none⟩ = false := (World.frozen?_of_block (hg6.block og lo1 (fun e => by rcases own_ne HRK.out HOU.out (by decide) with h | h; (rw [h] at e; cases e); exact h e.symm))).trans f0; have t60 : w6.cell? ⟨tb, 0, none⟩ = some (.int .i64 ((mr : Int) + 1)) := (World.cell?_of_block (hg6.block tb lj (fun e => HNI.out k hkl.out (by rw [← HRV.out]; exact e)))).trans j0; have t61 : w6.cell? ⟨tb, 1, none⟩ = some (.slice (some ⟨og, 0, none⟩) xss.length oc) := (World.cell?_of_block (hg6.block tb lj (fun e => HNI.out k hkl.out (by rw [← HRV.out]; exact e)))).trans j1; have b6 : Below w1.heap.size w1 w6 := Below.grown hb hg6 hlow (fun g hg => (own_block HRK.out hg).1))
          all_goals
            have hrg := OwnRows.regrown HOW.out HLZ.out.symm (k := k) (by rw [HLZ.out]; exact hlt) (v' := .slice a6 m6 c6) (ys := tcRow mr (xss.getD k [])) (by rw [← HRV.out]; exact hg6) (by
              have h := ho6
              rw [tcRow, List.length_append, HRL.out k hlt, List.map_append]
              exact h) (by rw [← HRV.out]; exact hs6)
            rw [HTS.out k hlt] at hrg
            have HG1 := Lib.hid hrg.1
            have HN1 := Lib.hid (HNI.out.set (v := .slice a6 m6 c6) (by rw [← HRV.out]; exact hs6) lj hkl.out)
            have b7 : Below w1.heap.size w1 (w6.setCell ⟨og, k, none⟩ (.slice a6 m6 c6)) := b6.setCell (p := ⟨og, k, none⟩) (own_block HOU.out rfl).1 (.slice a6 m6 c6)
            clear hrg ho6 hg6 hs6
            go_wp2
            go_roundw
            case rel => exact ⟨k + 1, by omega, by go_num, ⟨_, HG1.out, HN1.out⟩, by go_simp, by go_simp, b7⟩
            case measure => simp [intOf]; omega
        · obtain rfl : k = xss.length := by omega
          rw [tcTo_all] at ho
          have s4 := Below.cellOf hb q4 hz1
          have s5 := Below.cellOf hb q5 hz1
          have u4 := (hb.frozen (p := ⟨w.heap.size + 1, 0, none⟩) hz1).trans f4
          have u5 := (hb.frozen (p := ⟨w.heap.size + 1, 1, none⟩) hz1).trans f5
          have hz : w.heap.size + 1 < wr.heap.size := block_lt_of_cell s4
          have HO7 := Lib.hid ho
          have hbf := bw1.trans (hb.mono bw1.size)
          clear ho hni HO HO0
          go_wp2
          refine bodyPost_ret (v := .tuple #[.agg #[.int .i64 ((n : Int) + 1), .slice (some ⟨og, 0, none⟩) xss.length oc], .int .i64 0]) (by simp [results, Try.results7, go_sem, s4, s5, hz]) rfl ⟨_, rs, rfl, ?_, by repeat (first | exact hbf | refine below_set ?_ (by omega) _ _)⟩
          exact ((HO7.out.set_below (by omega) _ _).set_below (by omega) _ _).mono bw1.size

end Go.Proofs.Ytinkjoecadnlbaa
