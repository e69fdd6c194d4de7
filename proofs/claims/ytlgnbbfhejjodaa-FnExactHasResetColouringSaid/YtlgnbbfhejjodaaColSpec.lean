/- l05At, of the reference. -/
import Derived.Test.YtlgnbbfhejjodaaPaint
namespace Go.Proofs.Ytlgnbbfhejjodaa
set_option linter.unusedVariables false
set_option linter.unusedSimpArgs false
open Go.ChangeShapes Go.WideShapes Go.ChangeAt Go.RowKit

theorem numLeft_step {ls : List (List (List Int))} {z p : Nat} (h : p < ls.length) : numLeft ls z (ls.length - p) = numLeft ls z (ls.length - (p + 1)) / (ls.getD p []).length := by
  obtain ⟨k, hk⟩ : ∃ k, ls.length - p = k + 1 := ⟨ls.length - p - 1, by omega⟩
  rw [hk, show ls.length - (p + 1) = k by omega, numLeft, show ls.length - 1 - k = p by omega]
theorem pickAt_def {ls : List (List (List Int))} {z p : Nat} : pickAt ls z p = (ls.getD p []).getD (numLeft ls z (ls.length - (p + 1)) % (ls.getD p []).length) [] := by
  unfold pickAt
  rw [show ls.length - 1 - p = ls.length - (p + 1) by omega]
theorem map_snoc_i (xs : List Int) (y : Int) : xs.map (Value.int .i64) ++ [.int .i64 y] = (xs ++ [y]).map (Value.int .i64) := by simp
theorem tmod_nat (a b : Nat) : Int.tmod (a : Int) (b : Int) = ((a % b : Nat) : Int) := (Int.ofNat_tmod a b).symm
theorem tdiv_nat (a b : Nat) : Int.tdiv (a : Int) (b : Int) = ((a / b : Nat) : Int) := (Int.ofNat_tdiv a b).symm

/-- the lists of the towns from p on, in a row of slices -/
structure Served (w wr : World) (lb p z : Nat) (ls : List (List (List Int))) (L : List Value) : Prop where
  own : wr.ownsRow w.heap.size 32 1 (.slice (some ⟨lb, 0, none⟩) ls.length ls.length) ls.length L
  row : ∀ s, p ≤ s → s < ls.length → Ints w (L.getD s undef) (pickAt ls z s)
theorem Served.len {w wr : World} {lb p z : Nat} {ls : List (List (List Int))} {L : List Value} (h : Served w wr lb p z ls L) : L.length = ls.length := by have := h.own.1; omega
theorem Served.give {w wr w' : World} {lb p z : Nat} {ls : List (List (List Int))} {L : List Value} {r : Value} (h : Served w wr lb (p + 1) z ls L) (hp : p < ls.length) (hr : Ints w r (pickAt ls z p)) (ho : w'.ownsRow w.heap.size 32 1 (.slice (some ⟨lb, 0, none⟩) ls.length ls.length) ls.length (L.set p r)) : Served w w' lb p z ls (L.set p r) := by
  refine ⟨ho, fun s h1 h2 => ?_⟩
  by_cases e : s = p
  · subst e
    rw [getD_set_same _ _ _ _ (by rw [h.len]; exact hp)]
    exact hr
  · rw [getD_set_other _ _ _ _ _ e]
    exact h.row s (by omega) h2

set_option maxRecDepth 100000 in
set_option maxHeartbeats 4000000 in
theorem l05At_any (v : Value) (ls : List (List (List Int))) (n d z : Nat) (w : World) (h1 : Rows3 w v ls) (hg : GoodL n d ls) (hn1 : 1 ≤ n) (hn : n ≤ 7) (hd : 1 ≤ d) (hd3 : d ≤ 3) (hz : z ≤ 279936) :
    Calls Try.prog 79 #[v, .int .i64 z] w (NewAuto n (colRows ls d z) w) := by
  obtain ⟨ao, p, o, c, H⟩ := h1.open
  have hv := H.val
  subst hv
  obtain rfl := hg.len
  have A1 := H.adr
  have hm := H.len
  have HROW := Lib.hid H.cell
  have HG := Lib.hid hg
  obtain ⟨i0, hi, hz0, hz1, hz2⟩ := info_parts elem_ints.info
  clear h1 H hg
  go_enter Try.func79, Try.ntmps79
  go_wp2_with (at_make; refine wpList_make_full _ rfl _ _ 22 rfl w.heap.size 32 i0 (.slice none 0 0) 1 Try.underlying22 hi hz0 hz1 .i64 .i64 ls.length ls.length ls.length rfl rfl rfl rfl (by rw [hz2]; omega) (by unfold maxLen; omega) (by simp) ?_; intro w1 hown hgr)
  have hb1 : Below (w.heap.size + 1) (w.alloc (.cells #[.int .i64 0, .slice none 0 0] 28)) w1 := by
    have h : Below (w.alloc (.cells #[.int .i64 0, .slice none 0 0] 28)).heap.size _ w1 := Below.grown (Below.refl _ _) hgr (Nat.le_refl _) (by intro k h; cases h)
    simpa using h
  have q0 : (w.alloc (.cells #[.int .i64 0, .slice none 0 0] 28)).cell? ⟨w.heap.size, 0, none⟩ = some (.int .i64 0) ∧ (w.alloc (.cells #[.int .i64 0, .slice none 0 0] 28)).frozen? ⟨w.heap.size, 0, none⟩ = false := ⟨by go_simp, by go_simp⟩
  have q1 : (w.alloc (.cells #[.int .i64 0, .slice none 0 0] 28)).cell? ⟨w.heap.size, 1, none⟩ = some (.slice none 0 0) ∧ (w.alloc (.cells #[.int .i64 0, .slice none 0 0] 28)).frozen? ⟨w.heap.size, 1, none⟩ = false := ⟨by go_simp, by go_simp⟩
  have hba : Below w.heap.size w (w.alloc (.cells #[.int .i64 0, .slice none 0 0] 28)) := below_alloc (Below.refl _ _) _
  have hsa : (w.alloc (.cells #[.int .i64 0, .slice none 0 0] 28)).heap.size = w.heap.size + 1 := by simp
  have hsv : ∃ L, Served w w1 (w.heap.size + 1) ls.length z ls L := ⟨_, by simpa using own_lo hown (show w.heap.size ≤ w.heap.size from Nat.le_refl _), fun s h1 h2 => by omega⟩
  have hsz1 : w.heap.size + 1 + 1 ≤ w1.heap.size := (own_block hown (g := w.heap.size + 1) (by simp [Value.ownBlock])).2
  generalize w.alloc (.cells #[.int .i64 0, .slice none 0 0] 28) = WA at hb1 q0 q1 hba hsa hgr
  have HB1 := Lib.hid hb1
  have HQ0 := Lib.hid q0
  have HQ1 := Lib.hid q1
  have HBA := Lib.hid hba
  have HSA := Lib.hid hsa
  have HSV := Lib.hid hsv
  clear hb1 q0 q1 hba hsa hsv hown hgr hi hz0 hz1 hz2
  generalize hlb : w.heap.size + 1 = lb at HB1 HSA HSV hsz1 ⊢
  have hlb2 : w.heap.size < lb := by omega
  have HLB := Lib.hid hlb
  clear hlb
  have hnl0 : Hid (numLeft ls z (ls.length - ls.length) = z) := by unfold Hid; rw [Nat.sub_self]; rfl
  go_loopw [1, 7] (fun u i wr => ∃ r : Nat, r ≤ ls.length ∧ i = .int .i64 ((r : Int) - 1) ∧ u = .int .i64 (numLeft ls z (ls.length - r) : Nat) ∧ Hid (∃ L, Served w wr lb r z ls L) ∧ Below lb WA wr ∧ lb < wr.heap.size) (fun _ i _ => (intOf i + 1).toNat)
  case atStart => exact ⟨ls.length, Nat.le_refl _, by go_num, by rw [hnl0.out], HSV.out, HB1.out, by omega⟩
  case round =>
    obtain ⟨r, hr, rfl, rfl, HS, hbA, hlw⟩ := hrel
    have hbw : Below w.heap.size w wr := HBA.out.trans (hbA.mono (by omega))
    obtain ⟨L, hS⟩ := HS.out
    have HSS := Lib.hid hS
    have hLl := hS.len
    have HLL := Lib.hid hLl
    clear hLl
    have hzq : r = 0 ∨ ∃ p : Nat, r = p + 1 := by cases r with
      | zero => exact .inl rfl
      | succ p => exact .inr ⟨p, rfl⟩
    rcases hzq with rfl | ⟨p1, rfl⟩
    · rw [show (((0 : Nat) : Int)) - 1 = -1 by omega]
      clear hS
      have hLC : Hid (∀ s, s < ls.length → wr.cell? ⟨lb, s, none⟩ = some (L.getD s undef)) := fun s hs => by
        rw [HSS.out.own.cellAt s (by omega)]
        simp [List.getD_eq_getElem?_getD, show s < L.length by rw [HLL.out]; exact hs]
      have hLR : Hid (∀ s, s < ls.length → Ints w (L.getD s undef) (pickAt ls z s)) := fun s hs => HSS.out.row s (Nat.zero_le _) hs
      have hPL : Hid (∀ s, s < ls.length → (pickAt ls z s).length = d) := fun s hs => (HG.out.row s hs _ (HG.out.pick z hs)).1
      have HQ0' := Lib.hid (show wr.cell? ⟨w.heap.size, 0, none⟩ = some (.int .i64 0) ∧ wr.frozen? ⟨w.heap.size, 0, none⟩ = false from ⟨(hbA.cell (p := ⟨w.heap.size, 0, none⟩) hlb2).trans HQ0.out.1, (hbA.frozen (p := ⟨w.heap.size, 0, none⟩) hlb2).trans HQ0.out.2⟩)
      have HQ1' := Lib.hid (show wr.cell? ⟨w.heap.size, 1, none⟩ = some (.slice none 0 0) ∧ wr.frozen? ⟨w.heap.size, 1, none⟩ = false from ⟨(hbA.cell (p := ⟨w.heap.size, 1, none⟩) hlb2).trans HQ1.out.1, (hbA.frozen (p := ⟨w.heap.size, 1, none⟩) hlb2).trans HQ1.out.2⟩)
      have hO0 : OutAt (wr.alloc (.cells #[.int .i64 (ls.length : Int), .slice none 0 0] 28)) wr.heap.size (wr.heap.size + 1) (ls.length : Int) ((colRows ls d z).take 0) := ⟨_, [], by go_simp, by go_simp, by go_simp, ownRows_nil _ _⟩
      have hB0 : Below wr.heap.size wr (wr.alloc (.cells #[.int .i64 (ls.length : Int), .slice none 0 0] 28)) := below_alloc (Below.refl _ _) _
      have HO0 := Lib.hid hO0
      have HB0 := Lib.hid hB0
      obtain ⟨wo, rfl⟩ : ∃ wo : World, wo = wr := ⟨_, rfl⟩
      clear HSS HS hbA hO0 hB0 HB1 HSA HSV HQ0 HQ1 hsz1 i0 hnl0 HROW
      go_wp2
      go_loopw [10] (fun i wr => ∃ x : Nat, x ≤ d ∧ i = .int .i64 x ∧ Hid (OutAt wr wo.heap.size (wo.heap.size + 1) (ls.length : Int) ((colRows ls d z).take x)) ∧ Below wo.heap.size wo wr) (fun i _ => d - (intOf i).toNat)
      case atStart => exact ⟨0, Nat.zero_le _, rfl, HO0.out, HB0.out⟩
      case round =>
        obtain ⟨x, hx, rfl, HO, hbo⟩ := hrel
        obtain ⟨wq, rfl⟩ : ∃ wq : World, wq = wr := ⟨_, rfl⟩
        have hbwq : Below w.heap.size w wq := below_trans hbw hbo
        have h0l : 0 < ls.length := by omega
        obtain ⟨a0, m0, c0, he0, HM0⟩ := (hLR.out 0 h0l).shape
        have e0 := below_cell hbo (hLC.out 0 h0l)
        rw [he0] at e0
        obtain rfl : m0 = d := by rw [HM0.out]; exact hPL.out 0 h0l
        have le0 := block_lt_of_cell e0
        have i0 := idx_at Try.underlying22 size1_ints (ao := some ⟨lb, 0, none⟩) (b := lb) (o := 0) (n := ls.length) (c := ls.length) (fun _ => rfl) h0l .i64 0 rfl
        rw [Nat.zero_add] at i0
        clear he0 HM0
        by_cases hlt : x < m0
        · have HE := Lib.hid (own_empty wq wq.heap.size (Nat.le_refl _) 2)
          go_wp2
          go_loopw [11, 12] (fun u i wr => ∃ s : Nat, s ≤ ls.length ∧ i = .int .i64 s ∧ Hid (wr.ownsRow wq.heap.size 2 1 u ((List.range s).map fun s => (pickAt ls z s).getD x 0).length (((List.range s).map fun s => (pickAt ls z s).getD x 0).map (Value.int .i64))) ∧ Below wq.heap.size wq wr) (fun _ i _ => ls.length - (intOf i).toNat)
          case atStart => exact ⟨0, Nat.zero_le _, rfl, HE.out, below_alloc (Below.refl _ _) _⟩
          case round =>
            obtain ⟨s, hs, rfl, HU, hbs⟩ := hrel
            by_cases hslt : s < ls.length
            · obtain ⟨a5, m5, c5, hes, HMs⟩ := (hLR.out s hslt).shape
              have hIn := hLR.out s hslt
              have es := below_cell hbs (below_cell hbo (hLC.out s hslt))
              rw [hes] at es hIn
              obtain rfl : m5 = m0 := (by rw [HMs.out]; exact hPL.out s hslt)
              obtain ⟨ao4, b4, o4, c4, H4⟩ := hIn.open
              have hv4 := H4.val
              rw [hPL.out s hslt] at hv4
              rw [Value.slice.injEq] at hv4
              obtain ⟨hv4a, _, _⟩ := hv4
              subst hv4a
              obtain ⟨y, hy, dy⟩ := H4.at (k := x) (by rw [hPL.out s hslt]; exact hlt)
              replace dy := below_cell (below_trans hbwq hbs) dy
              have les := block_lt_of_cell es
              have ldy := block_lt_of_cell dy
              have A4 := H4.adr
              rw [hPL.out s hslt] at A4
              have i4 := idx_of Try.underlying22 size1_ints (ao := some ⟨lb, 0, none⟩) (b := lb) (o := 0) (n := ls.length) (c := ls.length) (fun _ => rfl) hslt .i64
              rw [Nat.zero_add] at i4
              have i5 := idx_of Try.underlying32 size1_int (c := c4) A4 hlt .i64
              have HY := Lib.hid hy
              have hln : ((List.range s).map fun s => (pickAt ls z s).getD x 0).length = s := by simp
              have hU := HU.out
              rw [hln] at hU
              have HU2 := Lib.hid hU
              have HSN := Lib.hid (range_map_snoc (fun s => (pickAt ls z s).getD x 0) s)
              clear hy hes HMs hIn H4 hln hU A4
              go_wp2_with (at_builtin; refine wpList_push elem_int rfl (.tmp 59) (.tmp 67) rfl wq.heap.size rfl HU2.out _ rfl rfl (by unfold maxLen; omega) (by omega) hbs.size ?_; intro v6 w6 ho6 hg6 hs6)
              have hb6 : Below wq.heap.size wq w6 := hbs.grown hg6 hbs.size (fun g hg => (own_block HU2.out hg).1)
              have HO6 := Lib.hid ho6
              clear ho6 hg6 hs6
              go_wp2
              go_roundw
              case rel => exact ⟨s + 1, by omega, by go_num, by
                have h := HO6.out
                rw [← HY.out, map_snoc_i, HSN.out] at h
                unfold Hid
                rw [List.length_map, List.length_range]
                exact h, hb6⟩
              case measure => simp [intOf]; omega
            · obtain rfl : s = ls.length := by omega
              obtain ⟨au, mu, cu, rfl, HMu⟩ := own_shape HU.out
              obtain ⟨v, rs, k0, k1, f1, ho⟩ := HO.out
              have j0 := below_cell hbs k0
              have j1 := below_cell hbs k1
              have g1 := (hbs.frozen (p := ⟨wo.heap.size, 1, none⟩) (block_lt_of_cell k1)).trans f1
              have lj := block_lt_of_cell j1
              have hoi := ho.below hbs
              have hap := ho.apart_new HU.out
              have hcl : ((colRows ls m0 z).take x).length = x := by rw [List.length_take, colRows_len]; omega
              have hou := hoi.outer
              rw [hcl] at hou
              have HOU := Lib.hid hou
              have HOI := Lib.hid hoi
              have HAP := Lib.hid hap
              have HCL := Lib.hid hcl
              have hsz : wo.heap.size + 1 ≤ wr.heap.size := lj
              have hszq : wo.heap.size + 1 ≤ wq.heap.size := block_lt_of_cell k1
              have HTK : Hid ((colRows ls m0 z).take x ++ [(List.range ls.length).map fun s => (pickAt ls z s).getD x 0] = (colRows ls m0 z).take (x + 1)) := by
                have h := colRows_row ls m0 z x hlt
                unfold Hid
                rw [List.take_succ_eq_append_getElem (by rw [colRows_len]; exact hlt), ← h]
                simp [List.getD_eq_getElem?_getD, show x < (colRows ls m0 z).length by rw [colRows_len]; exact hlt]
              clear hoi hap ho hou k0 k1 f1 hcl
              go_wp2_with (at_builtin; refine wpList_push elem_ints rfl (.tmp 70) (.tmp 72) rfl (wo.heap.size + 1) rfl HOU.out _ rfl rfl (by unfold maxLen; omega) (by omega) hsz ?_; intro v6 w6 ho6 hg6 hs6; obtain ⟨a6, m6, c6, rfl, HM6⟩ := own_shape ho6; have r1 := grown_cell hg6 HOU.out (Nat.lt_succ_self _) j1; have r2 := grown_frozen hg6 HOU.out (Nat.lt_succ_self _) j1 g1; have lr := block_lt_of_cell r1)
              have hout := OutAt.pushed HOI.out j0 j1 g1 (Nat.lt_succ_self _) hg6 (by rw [HCL.out]; exact ho6) HU.out hszq HAP.out
              rw [HTK.out] at hout
              have HOUT := Lib.hid hout
              have hb7 : Below wo.heap.size wo (w6.setCell ⟨wo.heap.size, 1, none⟩ (.slice a6 m6 c6)) := (Below.grown (hbo.trans (hbs.mono (by omega))) hg6 (by omega) (fun g hg => by have := own_block HOU.out hg; omega)).setCell (p := ⟨wo.heap.size, 1, none⟩) (Nat.le_refl _) _
              clear hout ho6 hg6 hs6
              go_wp2
              go_roundw
              case rel => exact ⟨x + 1, by omega, by go_num, HOUT.out, hb7⟩
              case measure => simp [intOf]; omega
        · obtain rfl : x = m0 := by omega
          obtain ⟨v, rs, k0, k1, f1, ho⟩ := HO.out
          obtain ⟨av, mv, cv, rfl, HMv⟩ := own_shape ho.outer
          rw [List.take_of_length_le (by rw [colRows_len]; omega)] at ho
          have HOO := Lib.hid ho
          have p0 := (hbo.cell (p := ⟨w.heap.size, 0, none⟩) (by show w.heap.size < wo.heap.size; omega)).trans HQ0'.out.1
          have p1 := (hbo.cell (p := ⟨w.heap.size, 1, none⟩) (by show w.heap.size < wo.heap.size; omega)).trans HQ1'.out.1
          have g0 := (hbo.frozen (p := ⟨w.heap.size, 0, none⟩) (by show w.heap.size < wo.heap.size; omega)).trans HQ0'.out.2
          have g1 := (hbo.frozen (p := ⟨w.heap.size, 1, none⟩) (by show w.heap.size < wo.heap.size; omega)).trans HQ1'.out.2
          have l0 := block_lt_of_cell p0
          clear ho HO f1
          go_wp2
          refine bodyPost_ret (v := .agg #[.int .i64 (ls.length : Int), .slice av mv cv]) (by simp [results, Try.results79, go_sem, p0, p1]) rfl ⟨_, rs, rfl, ?_, ?_⟩
          · refine OwnRows.mono (lo := wo.heap.size + 1) ?_ (by omega)
            repeat (first | exact HOO.out | refine OwnRows.set_below ?_ (by first | omega | simp) _ _)
          · repeat (first | exact hbwq | refine below_set ?_ (by first | omega | simp) _ _)
    · rw [show (((p1 + 1 : Nat) : Int)) - 1 = (p1 : Int) by omega]
      have hpl : p1 < ls.length := by omega
      have HNX := Lib.hid (numLeft_step (z := z) hpl)
      have HPK := Lib.hid (pickAt_def (ls := ls) (z := z) (p := p1))
      have hale := numLeft_le ls z (ls.length - (p1 + 1))
      generalize numLeft ls z (ls.length - (p1 + 1)) = a at HNX HPK hale ⊢
      have i1 := idx_of Try.underlying91 size1_rows (c := c) A1 hpl .i64
      obtain ⟨r1, dr, hr1⟩ := HROW.out p1 hpl
      replace dr := below_cell hbw dr
      have ldr := block_lt_of_cell dr
      have hm0 := HG.out.pos p1 hpl
      have hm6 := HG.out.six p1 hpl
      obtain ⟨m, hmm⟩ : ∃ m, m = (ls.getD p1 []).length := ⟨_, rfl⟩
      rw [← hmm] at hm0 hm6 HNX HPK
      have hal : a % m < m := Nat.mod_lt _ hm0
      obtain ⟨a2, p2, o2, c2, H2⟩ := hr1.open
      have hv2 := H2.val
      rw [← hmm] at hv2
      subst hv2
      obtain ⟨r3, dr3, hr3⟩ := H2.cell (a % m) (by rw [← hmm]; exact hal)
      have A2 := H2.adr
      rw [← hmm] at A2
      have i2 := idx_of Try.underlying22 size1_ints (c := c2) A2 hal .i64
      replace dr3 := below_cell hbw dr3
      have ldr3 := block_lt_of_cell dr3
      obtain ⟨a3, m3, c3, rfl, HM3⟩ := hr3.shape
      have i3 := idx_of Try.underlying22 size1_ints (ao := some ⟨lb, 0, none⟩) (b := lb) (o := 0) (n := ls.length) (c := ls.length) (fun _ => rfl) hpl .i64
      rw [Nat.zero_add] at i3
      have e3 : wr.cell? ⟨lb, p1, none⟩ = some (L.getD p1 undef) := by
        rw [hS.own.cellAt p1 (by omega)]
        simp [List.getD_eq_getElem?_getD, show p1 < L.length by rw [HLL.out]; exact hpl]
      have f3 := hS.own.frozenAt p1
      generalize L.getD p1 undef = u3 at e3
      have hrem := tmod_nat a m
      have hquo := tdiv_nat a m
      have hmz : (m : Int) ≠ 0 := by omega
      have HR3 : Hid (Ints w (.slice a3 m3 c3) (pickAt ls z p1)) := by unfold Hid; rw [HPK.out]; exact hr3
      have hadl : a % m < 7 := by omega
      have hqle : a / m ≤ a := Nat.div_le_self _ _
      have HWQ : Hid (wrap64 ((a : Int) / (m : Int)) = ((a / m : Nat) : Int)) := by unfold Hid; rw [← Int.natCast_ediv, wrap64_i64]; exact wrap_i64_in _ (Int.natCast_nonneg _) (by have h9 : ((a / m : Nat) : Int) ≤ (a : Int) := Int.ofNat_le.2 hqle; omega)
      clear hr1 hr3 H2 hS hmm HPK
      go_wp2
      go_region
      all_goals
        have hst := HSS.out.own.stored p1 (.slice a3 m3 c3)
        have HS2 := Lib.hid (HSS.out.give hpl HR3.out (own_drew hst.1))
        have hb2 : Below lb WA (wr.setCell ⟨lb, p1, none⟩ (.slice a3 m3 c3)).drew := (hbA.setCell (p := ⟨lb, p1, none⟩) (Nat.le_refl _) _).drew
        clear hst
        go_wp2
        go_roundw
        case rel => exact ⟨p1, by omega, by go_num, by rw [HNX.out]; exact congrArg (Value.int .i64) HWQ.out, ⟨_, HS2.out⟩, hb2, by simp; omega⟩
        case measure => first | (simp [intOf]; done) | (simp [intOf]; omega)

end Go.Proofs.Ytlgnbbfhejjodaa
