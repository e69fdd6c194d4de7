/- TrapCompletion, of the reference. -/
import Derived.Test.YtinkjoecadnlbaaTrapLaw
namespace Go.Proofs.Ytinkjoecadnlbaa
set_option linter.unusedVariables false
set_option linter.unusedSimpArgs false
open Go.ChangeShapes Go.WideShapes Go.ChangeAt Go.RowKit

def tcRow (n : Nat) (r : List Int) : List Int := trapRow n r ++ [(n : Int)]
def tcCd (st : Int) (xss : List (List Int)) : Int := if validP st xss = true then (if st = 10 then 3 else 0) else 1
def tcSt (st : Int) (xss : List (List Int)) : Int := if tcCd st xss = 0 then st + 1 else 0
def tcRows (st : Int) (xss : List (List Int)) : List (List Int) := if tcCd st xss = 0 then xss.map (tcRow st.toNat) else []
theorem trapRow_take (c : Int) (r : List Int) (s : Nat) (h : s < r.length) : trapRow c (r.take s) ++ [if r.getD s 0 < 0 then c else r.getD s 0] = trapRow c (r.take (s + 1)) := by
  unfold trapRow
  rw [List.take_succ_eq_append_getElem h, List.map_append]
  simp [List.getD_eq_getElem?_getD, h]
theorem trapRow_len (c : Int) (r : List Int) : (trapRow c r).length = r.length := by simp [trapRow]

set_option maxRecDepth 100000 in
set_option maxHeartbeats 4000000 in
theorem specTrap_any (st : Int) (v : Value) (xss : List (List Int)) (w : World) (h1 : Rows2 w v xss) :
    Calls Try.prog 5 #[.agg #[.int .i64 st, v]] w (NewAuto2 (tcSt st xss) (tcRows st xss) (tcCd st xss) w) := by
  obtain ⟨ao, p1, o1, c, H1⟩ := h1.open
  have hv1 := H1.val
  subst hv1
  have hm := H1.len
  obtain ⟨W2, hW2⟩ : ∃ W2, W2 = (w.alloc (.cells #[.int .i64 st, .slice ao xss.length c] 29)).alloc (.cells #[.int .i64 0, .slice none 0 0] 26) := ⟨_, rfl⟩
  have bx : Below w.heap.size w W2 := by rw [hW2]; exact below_alloc (below_alloc (Below.refl _ _) _) _
  have p0 : W2.cell? ⟨w.heap.size, 0, none⟩ = some (.int .i64 st) := by rw [hW2]; go_simp
  have p1' : W2.cell? ⟨w.heap.size, 1, none⟩ = some (.slice ao xss.length c) := by rw [hW2]; go_simp
  have p4 : W2.cell? ⟨w.heap.size + 1, 0, none⟩ = some (.int .i64 0) := by rw [hW2]; go_simp
  have p5 : W2.cell? ⟨w.heap.size + 1, 1, none⟩ = some (.slice none 0 0) := by rw [hW2]; go_simp
  have g4 : W2.frozen? ⟨w.heap.size + 1, 0, none⟩ = false := by rw [hW2]; go_simp
  have g5 : W2.frozen? ⟨w.heap.size + 1, 1, none⟩ = false := by rw [hW2]; go_simp
  have C1 := Lib.hid (l04Ok_any w.heap.size 0 st _ xss W2 p0 p1' (h1.kept bx))
  cases hv : validP st xss
  · rw [show tcSt st xss = 0 by simp [tcSt, tcCd, hv], show tcRows st xss = [] by simp [tcRows, tcCd, hv], show tcCd st xss = 1 by simp [tcCd, hv]]
    rw [hv] at C1
    subst hW2
    clear hv h1 H1
    go_enter Try.func5, Try.ntmps5
    go_wp2_with fail
    refine C1.out.mono ?_
    rintro e w1 ⟨rfl, hqq⟩
    have hq := hqq.below ((w.alloc (.cells #[.int .i64 st, .slice ao xss.length c] 29)).alloc (.cells #[.int .i64 0, .slice none 0 0] 26)).heap.size
    have q4 := below_cell hq p4
    have q5 := below_cell hq p5
    have f4 := (hq.frozen (p := ⟨w.heap.size + 1, 0, none⟩) (block_lt_of_cell p4)).trans g4
    have f5 := (hq.frozen (p := ⟨w.heap.size + 1, 1, none⟩) (block_lt_of_cell p5)).trans g5
    have hz : w.heap.size + 1 < w1.heap.size := block_lt_of_cell q4
    have hbb := below_trans bx hq
    go_wp2
    exact bodyPost_ret (v := .tuple #[.agg #[.int .i64 0, .slice none 0 0], .int .i64 1]) (by simp [results, Try.results5, go_sem, q4, q5, hz]) rfl ⟨_, [], rfl, ownRows_nil _ _, by repeat (first | exact hbb | refine below_set ?_ (by omega) _ _)⟩
  obtain ⟨n, hg⟩ := goodP_of hv
  obtain rfl := hg.st
  have hn10 := hg.hi
  have hn1 := hg.lo
  have hl3 := hg.len3
  rw [hv] at C1
  by_cases h10 : (n : Int) = 10
  · have hcd : tcCd n xss = 3 := by unfold tcCd; rw [if_pos hv, if_pos h10]
    rw [show tcSt n xss = 0 by unfold tcSt; rw [hcd]; rfl, show tcRows n xss = [] by unfold tcRows; rw [hcd]; rfl, hcd]
    have he : ((n : Int) == 10) = true := by simp; omega
    subst hW2
    clear hv h1 H1 h10 hg hcd
    go_enter Try.func5, Try.ntmps5
    go_wp2_with fail
    refine C1.out.mono ?_
    rintro e w1 ⟨rfl, hqq⟩
    have hq := hqq.below ((w.alloc (.cells #[.int .i64 n, .slice ao xss.length c] 29)).alloc (.cells #[.int .i64 0, .slice none 0 0] 26)).heap.size
    have q0 := below_cell hq p0
    have q4 := below_cell hq p4
    have q5 := below_cell hq p5
    have f4 := (hq.frozen (p := ⟨w.heap.size + 1, 0, none⟩) (block_lt_of_cell p4)).trans g4
    have f5 := (hq.frozen (p := ⟨w.heap.size + 1, 1, none⟩) (block_lt_of_cell p5)).trans g5
    have hz : w.heap.size + 1 < w1.heap.size := block_lt_of_cell q4
    have hbb := below_trans bx hq
    go_wp2
    exact bodyPost_ret (v := .tuple #[.agg #[.int .i64 0, .slice none 0 0], .int .i64 3]) (by simp [results, Try.results5, go_sem, q4, q5, hz]) rfl ⟨_, [], rfl, ownRows_nil _ _, by repeat (first | exact hbb | refine below_set ?_ (by omega) _ _)⟩
  · have hcd : tcCd n xss = 0 := by unfold tcCd; rw [if_pos hv, if_neg h10]
    rw [show tcSt n xss = (n : Int) + 1 by unfold tcSt; rw [hcd]; rfl, show tcRows n xss = xss.map (tcRow n) by unfold tcRows; rw [hcd]; rfl, hcd]
    have he : ((n : Int) == 10) = false := by simp; omega
    have A1 := H1.adr
    have HROW := Lib.hid (fun k (hk : k < xss.length) => H1.cell k hk)
    have HG := Lib.hid hg
    subst hW2
    clear hv h1 H1 h10 hg hcd
    go_enter Try.func5, Try.ntmps5
    go_wp2_with fail
    refine C1.out.mono ?_
    rintro e w1 ⟨rfl, hqq⟩
    have hq := hqq.below ((w.alloc (.cells #[.int .i64 n, .slice ao xss.length c] 29)).alloc (.cells #[.int .i64 0, .slice none 0 0] 26)).heap.size
    have q0 := below_cell hq p0
    have q1 := below_cell hq p1'
    have q4 := below_cell hq p4
    have q5 := below_cell hq p5
    have f4 := (hq.frozen (p := ⟨w.heap.size + 1, 0, none⟩) (block_lt_of_cell p4)).trans g4
    have f5 := (hq.frozen (p := ⟨w.heap.size + 1, 1, none⟩) (block_lt_of_cell p5)).trans g5
    have bw1 := below_trans bx hq
    have HO0 : Hid (OutAt (w1.alloc (.cells #[.int .i64 ((n : Int) + 1), .slice none 0 0] 26)) w1.heap.size (w1.heap.size + 1) ((n : Int) + 1) ((xss.take 0).map (tcRow n))) := ⟨_, [], by go_simp, by go_simp, by go_simp, ownRows_nil _ _⟩
    have hB0 : Below w1.heap.size w1 (w1.alloc (.cells #[.int .i64 ((n : Int) + 1), .slice none 0 0] 26)) := below_alloc (Below.refl _ _) _
    have hz0 : w.heap.size < w1.heap.size := block_lt_of_cell q0
    have hz1 : w.heap.size + 1 < w1.heap.size := block_lt_of_cell q4
    clear p0 p1' p4 p5 g4 g5 hqq hq C1
    go_wp2
    go_loopw [5] (fun i wr => ∃ k : Nat, k ≤ xss.length ∧ i = .int .i64 k ∧ Hid (OutAt wr w1.heap.size (w1.heap.size + 1) ((n : Int) + 1) ((xss.take k).map (tcRow n))) ∧ Below w1.heap.size w1 wr) (fun i _ => xss.length - (intOf i).toNat)
    case atStart => exact ⟨0, Nat.zero_le _, rfl, HO0.out, hB0⟩
    case round =>
      obtain ⟨k, hk, rfl, HO, hb⟩ := hrel
      have r0 := below_cell hb q0
      have r1 := below_cell hb q1
      have lr0 : w.heap.size < wr.heap.size := block_lt_of_cell r0
      by_cases hlt : k < xss.length
      · have i1 := idx_of Try.underlying22 size1_ints (c := c) A1 hlt .i64
        obtain ⟨rv, d2, hr1⟩ := HROW.out k hlt
        obtain ⟨ao2, p2, o2, c2, H2⟩ := hr1.open
        have hv2 := H2.val
        subst hv2
        have A2 := H2.adr
        have hrl := HG.out.row hlt
        rw [hrl] at A2 d2
        have HZ := Lib.hid (fun s (hs : s < n) => H2.cell s (by rw [hrl]; exact hs))
        have e2 := below_cell (below_trans bw1 hb) d2
        have ld := block_lt_of_cell e2
        obtain ⟨yk, hyk⟩ : ∃ yk, yk = xss.getD k [] := ⟨_, rfl⟩
        rw [← hyk] at HZ hrl
        have HNX : Hid ((xss.take k).map (tcRow n) ++ [tcRow n yk] = (xss.take (k + 1)).map (tcRow n)) := by unfold Hid; rw [hyk, List.take_succ_eq_append_getElem hlt, List.map_append]; simp [List.getD_eq_getElem?_getD, hlt]
        have HTT := Lib.hid (fun s (hs : s < n) => trapRow_take (n : Int) yk s (by omega))
        have HRL := Lib.hid hrl
        obtain ⟨wo, rfl⟩ : ∃ wo : World, wo = wr := ⟨_, rfl⟩
        have HE2 := Lib.hid (own_empty wo wo.heap.size (Nat.le_refl _) 2)
        have hbe2 : Below wo.heap.size wo (wo.alloc (.cells #[] 2)) := below_alloc (Below.refl _ _) _
        have hlow := hb.size
        clear hyk hr1 d2 H2 hrl
        go_wp2
        go_loopw [6, 7] (fun u i wr => ∃ s : Nat, s ≤ n ∧ i = .int .i64 s ∧ Hid (wr.ownsRow wo.heap.size 2 1 u s ((trapRow n (yk.take s)).map (Value.int .i64))) ∧ Below wo.heap.size wo wr) (fun _ i _ => n - (intOf i).toNat)
        case atStart => exact ⟨0, Nat.zero_le _, rfl, by simpa [Hid, trapRow] using HE2.out, hbe2⟩
        case round =>
          obtain ⟨s, hs, rfl, HR, hb2⟩ := hrel
          have t0 := below_cell hb2 r0
          have t1 := below_cell hb2 r1
          have t2 := below_cell hb2 e2
          by_cases hlt2 : s < n
          · have i2 := idx_of Try.underlying39 size1_int (c := c2) A2 hlt2 .i64
            have d3 := below_cell (below_trans (below_trans bw1 hb) hb2) (HZ.out s hlt2)
            have HS := Lib.hid (HTT.out s hlt2)
            obtain ⟨z, hz⟩ : ∃ z, z = yk.getD s 0 := ⟨_, rfl⟩
            rw [← hz] at d3 HS
            have l0 := block_lt_of_cell t0
            clear hz
            by_cases hzn : z < 0
            · have hS := HS.out
              rw [if_pos hzn] at hS
              have HS2 := Lib.hid hS
              clear hS
              go_wp2_with (at_builtin; refine wpList_push elem_int rfl (.tmp 50) (.tmp 52) rfl wo.heap.size rfl HR.out _ rfl rfl (by unfold maxLen; omega) (by omega) hb2.size ?_; intro v6 w6 ho6 hg6 hs6)
              have HR6 := Lib.hid ho6
              have hb6 : Below wo.heap.size wo w6 := Below.grown hb2 hg6 hb2.size (fun g hg => (own_block HR.out hg).1)
              clear ho6 hg6 hs6
              go_wp2
              go_roundw
              case rel => exact ⟨s + 1, by omega, by go_num, by unfold Hid; rw [← HS2.out, List.map_append]; exact HR6.out, hb6⟩
              case measure => simp [intOf]; omega
            · have hS := HS.out
              rw [if_neg hzn] at hS
              have HS2 := Lib.hid hS
              clear hS
              go_wp2_with (at_builtin; refine wpList_push elem_int rfl (.tmp 50) (.tmp 52) rfl wo.heap.size rfl HR.out _ rfl rfl (by unfold maxLen; omega) (by omega) hb2.size ?_; intro v6 w6 ho6 hg6 hs6)
              have HR6 := Lib.hid ho6
              have hb6 : Below wo.heap.size wo w6 := Below.grown hb2 hg6 hb2.size (fun g hg => (own_block HR.out hg).1)
              clear ho6 hg6 hs6
              go_wp2
              go_roundw
              case rel => exact ⟨s + 1, by omega, by go_num, by unfold Hid; rw [← HS2.out, List.map_append]; exact HR6.out, hb6⟩
              case measure => simp [intOf]; omega
          · obtain rfl : s = n := by omega
            have hrow := HR.out
            rw [List.take_of_length_le (by rw [HRL.out]; exact Nat.le_refl _)] at hrow
            obtain ⟨ar, mr, cr, rfl, HMr⟩ := own_shape hrow
            have HROW2 := Lib.hid hrow
            obtain ⟨v0, rs, k0, k1, g1, ho⟩ := HO.out
            obtain ⟨av, mv, cv, rfl, HMv⟩ := own_shape ho.outer
            have hlen : ((xss.take k).map (tcRow s)).length = k := by rw [List.length_map, List.length_take]; omega
            have HLEN := Lib.hid hlen
            have hou := ho.outer
            rw [hlen] at hou
            have HOU := Lib.hid hou
            have HOW := Lib.hid ho
            have hlob : w1.heap.size < wo.heap.size := block_lt_of_cell k1
            have kr1 := below_cell hb2 k1
            have lobr : w1.heap.size < wr.heap.size := block_lt_of_cell kr1
            have l0 := block_lt_of_cell t0
            clear hrow HR HO hou ho hlen HMr HMv
            go_wp2
            go_region_law
              (first
                | (refine step_push elem_int rfl (.tmp 56) (.tmp 59) rfl wo.heap.size rfl HROW2.out _ rfl rfl (by unfold maxLen; omega) (by omega) hb2.size ?_; intro v6 w6 ho6 hg6 hs6; obtain ⟨a6, m6, c6, rfl, HM6⟩ := own_shape ho6; have hb6 : Below wo.heap.size wo w6 := Below.grown hb2 hg6 hb2.size (fun g hg => (own_block HROW2.out hg).1); have k61 := below_cell hb6 k1; have lob6 : w1.heap.size < w6.heap.size := block_lt_of_cell k61)
                | (have j0 := below_cell (below_alloc hb6 (.cells #[.slice a6 m6 c6] 39)) k0; have j1 := below_cell (below_alloc hb6 (.cells #[.slice a6 m6 c6] 39)) k1; have q1' := ((below_alloc hb6 (.cells #[.slice a6 m6 c6] 39)).frozen (p := ⟨w1.heap.size, 1, none⟩) hlob).trans g1; have hz5 : wo.heap.size ≤ w6.heap.size := hb6.size; refine step_appG elem_ints rfl (.tmp 55) (.tmp 61) rfl (w1.heap.size + 1) rfl (own_below HOU.out (below_alloc hb6 (.cells #[.slice a6 m6 c6] 39))) w6.heap.size (.slice a6 m6 c6) rfl (by go_simp) rfl (by unfold maxLen; omega) (by omega) (by simp; omega) ?_; intro v8 w8 ho8 hg8; obtain ⟨a8, m8, c8, rfl, HM8⟩ := own_shape ho8; have rc1 := grown_cell hg8 (own_below HOU.out (below_alloc hb6 (.cells #[.slice a6 m6 c6] 39))) (by omega) j1; have rc2 := grown_frozen hg8 (own_below HOU.out (below_alloc hb6 (.cells #[.slice a6 m6 c6] 39))) (by omega) j1 q1'; have HK8 : Hid (Below w1.heap.size w1 w8) := Below.grown ((hb.trans (hb6.mono (Nat.le_of_lt hlob))).alloc (by omega) _) hg8 (by simp; omega) (fun g hg => by have := own_block HOU.out hg; omega)))
            all_goals
              have hr5 : (w6.alloc (.cells #[.slice a6 m6 c6] 39)).ownsRow wo.heap.size 2 1 (.slice a6 m6 c6) (tcRow s yk).length ((tcRow s yk).map (Value.int .i64)) := by
                have h := World.ownsRow.alloc ho6 (.cells #[.slice a6 m6 c6] 39)
                rw [tcRow, List.length_append, trapRow_len, HRL.out, List.map_append]
                exact h
              have hout := OutAt.pushed (HOW.out.below (below_alloc hb6 (.cells #[.slice a6 m6 c6] 39))) j0 j1 q1' (by omega) hg8 (by rw [HLEN.out]; exact ho8) hr5 (by omega) (HOW.out.apart_new hr5)
              rw [HNX.out] at hout
              have HOUT := Lib.hid hout
              have HB7 := Lib.hid (HK8.out.setCell (p := ⟨w1.heap.size, 1, none⟩) (Nat.le_refl _) (.slice a8 m8 c8))
              clear hout hr5 ho6 ho8 hg6 hg8 hs6 j0 j1 q1'
              go_wp2
              go_roundw
              case rel => exact ⟨k + 1, by omega, by go_num, HOUT.out, HB7.out⟩
              case measure => simp [intOf]; omega
      · obtain rfl : k = xss.length := by omega
        have hO := HO.out
        rw [List.take_length] at hO
        obtain ⟨v0, rs, k0, k1, g1, ho⟩ := hO
        obtain ⟨av, mv, cv, rfl, HMv⟩ := own_shape ho.outer
        have s4 := below_cell hb q4
        have s5 := below_cell hb q5
        have u4 := (hb.frozen (p := ⟨w.heap.size + 1, 0, none⟩) hz1).trans f4
        have u5 := (hb.frozen (p := ⟨w.heap.size + 1, 1, none⟩) hz1).trans f5
        have hz : w.heap.size + 1 < wr.heap.size := block_lt_of_cell s4
        have HO7 := Lib.hid ho
        have hbf := below_trans bw1 hb
        clear ho HO HO0
        go_wp2
        refine bodyPost_ret (v := .tuple #[.agg #[.int .i64 ((n : Int) + 1), .slice av mv cv], .int .i64 0]) (by simp [results, Try.results5, go_sem, s4, s5, hz]) rfl ⟨_, rs, rfl, ?_, by repeat (first | exact hbf | refine below_set ?_ (by omega) _ _)⟩
        refine OwnRows.mono (lo := w1.heap.size + 1) ?_ (by omega)
        repeat (first | exact HO7.out | refine OwnRows.set_below ?_ (by first | omega | simp) _ _)

end Go.Proofs.Ytinkjoecadnlbaa
