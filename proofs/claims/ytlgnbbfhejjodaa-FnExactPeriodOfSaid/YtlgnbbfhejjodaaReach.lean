/- reached, of the program. -/
import Derived.Test.YtlgnbbfhejjodaaSorted
import Derived.Test.YtlgnbbfhejjodaaStep
namespace Go.Proofs.Ytlgnbbfhejjodaa
set_option linter.unusedVariables false
set_option linter.unusedSimpArgs false
open Go.ChangeShapes Go.WideShapes Go.ChangeAt Go.RowKit

set_option maxRecDepth 100000 in
set_option maxHeartbeats 4000000 in
theorem reached_any (st : Int) (v : Value) (xss : List (List Int)) (n : Nat) (s : Int) (w : World) (h1 : Rows2 w v xss) (hg : Good st n xss) (hs : 0 ≤ s ∧ s < n) :
    Calls Try.prog 126 #[.agg #[.int .i64 st, v], .int .i64 s] w (NewInts (rcZs xss s) w) := by
  have hn10 := hg.hi
  obtain ⟨ao, p1, o1, c, H1⟩ := h1.open
  have hv1 := H1.val
  subst hv1
  have hm := H1.len
  have A1 := H1.adr
  have hl3 := hg.len3
  have HROW := Lib.hid (fun k (hk : k < xss.length) => H1.cell k hk)
  have HRL := Lib.hid (fun k (hk : k < xss.length) => hg.row hk)
  have HDI := Lib.hid (fun i => rTo_dist hg hs i)
  have HG := Lib.hid hg
  obtain ⟨W1, hW1⟩ : ∃ W1, W1 = w.alloc (.cells #[.int .i64 st, .slice ao xss.length c] 28) := ⟨_, rfl⟩
  have bx : Below w.heap.size w W1 := by rw [hW1]; exact below_alloc (Below.refl _ _) _
  have p0 : W1.cell? ⟨w.heap.size, 0, none⟩ = some (.int .i64 st) := by rw [hW1]; go_simp
  have p1 : W1.cell? ⟨w.heap.size, 1, none⟩ = some (.slice ao xss.length c) := by rw [hW1]; go_simp
  have HE : Hid ((W1.alloc (.cells #[.int .i64 s] 2)).ownsRow (w.heap.size + 1) 2 1 (.slice (some ⟨w.heap.size + 1, 0, none⟩) 1 1) (rTo xss s 0).length ((rTo xss s 0).map (Value.int .i64))) := by
    have := World.ownsRow_lit (base := w.heap.size + 1) (size := 1) (e := 2) W1 #[.int .i64 s] 1 (by rw [hW1]; simp) (by unfold maxLen; omega) (by simp)
    rw [show W1.heap.size = w.heap.size + 1 by rw [hW1]; simp] at this
    exact this
  have hbe : Below (w.heap.size + 1) W1 (W1.alloc (.cells #[.int .i64 s] 2)) := (Below.refl _ _).alloc (by rw [hW1]; simp) _
  subst hW1
  clear h1 hg H1
  go_enter Try.func126, Try.ntmps126
  go_wp2
  go_loopw [5, 6] (fun u i wr => ∃ k : Nat, Hid (k ≤ (rTo xss s k).length) ∧ i = .int .i64 k ∧ Hid (wr.ownsRow (w.heap.size + 1) 2 1 u (rTo xss s k).length ((rTo xss s k).map (Value.int .i64))) ∧ Below (w.heap.size + 1) (w.alloc (.cells #[.int .i64 st, .slice ao xss.length c] 28)) wr) (fun _ i _ => n - (intOf i).toNat)
  case atStart => exact ⟨0, Nat.zero_le _, rfl, HE.out, hbe⟩
  case round =>
    obtain ⟨k, hk, rfl, HO, hb⟩ := hrel
    have hD := HDI.out k
    have hLn := hD.le
    have hkn := hk.out
    have HSU := Lib.hid (fun h => rTo_succ (xss := xss) (s := s) (i := k) h)
    have HST := Lib.hid (fun h => reach_stop (xss := xss) (s := s) (i := k) h (by omega))
    have HDD := Lib.hid hD
    obtain ⟨L, hL⟩ : ∃ L, L = rTo xss s k := ⟨_, rfl⟩
    rw [← hL] at HO HDD HSU HST hLn hkn
    clear hk hD
    have q0 := Below.cellOf hb p0 (by omega)
    have q1 := Below.cellOf hb p1 (by omega)
    have lq := block_lt_of_cell q0
    obtain ⟨au, mu, cu, rfl, HMu⟩ := own_shape HO.out
    obtain rfl : mu = L.length := HMu.out
    by_cases hlt : k < L.length
    · obtain ⟨z, hz⟩ : ∃ z, z = L.getD k 0 := ⟨_, rfl⟩
      have hzb := HDD.out.bd _ (mem_getD hlt)
      rw [← hz] at hzb
      have HZ := Lib.hid hz
      have hSU := HSU.out hlt
      rw [← hz] at hSU
      have HS2 := Lib.hid hSU
      have HDR := Lib.hid (fun x hx => HDD.out.row HG.out hzb x hx)
      have HTB := Lib.hid (fun x (hx : x < xss.length) => HG.out.toZ hzb hx)
      have hb0 : Hid (wr.ownsRow (w.heap.size + 1) 2 1 (.slice au L.length cu) (rRow xss z L 0).length ((rRow xss z L 0).map (Value.int .i64))) := HO.out
      have hbw : Below w.heap.size w wr := bx.trans (hb.mono (by omega))
      clear hz hSU hL HO HMu
      go_wp2
      go_loopw [5, 21] (fun u i wr => ∃ x : Nat, x ≤ xss.length ∧ i = .int .i64 x ∧ Hid (wr.ownsRow (w.heap.size + 1) 2 1 u (rRow xss z L x).length ((rRow xss z L x).map (Value.int .i64))) ∧ Below (w.heap.size + 1) (w.alloc (.cells #[.int .i64 st, .slice ao xss.length c] 28)) wr) (fun _ i _ => xss.length - (intOf i).toNat)
      case atStart => exact ⟨0, Nat.zero_le _, rfl, hb0.out, hb⟩
      case round =>
        obtain ⟨x, hx, rfl, HR, hb2⟩ := hrel
        have r0 := Below.cellOf hb2 p0 (by omega)
        have r1 := Below.cellOf hb2 p1 (by omega)
        have lr := block_lt_of_cell r0
        have hDx := (HDR.out x hx).le
        have hlx := rRow_len xss z L x
        have hgx := rRow_get xss z L x hlt
        rw [← HZ.out] at hgx
        have HSX := Lib.hid (rRow_succ xss z L x)
        obtain ⟨M, hM⟩ : ∃ M, M = rRow xss z L x := ⟨_, rfl⟩
        rw [← hM] at HR hDx hlx hgx HSX
        have HMX := Lib.hid hM
        obtain ⟨ar, mr, cr, rfl, HMr⟩ := own_shape HR.out
        obtain rfl : mr = M.length := HMr.out
        clear hM HMr
        by_cases hltx : x < xss.length
        · have i1 := idx_of Try.underlying22 size1_ints (c := c) A1 hltx .i64
          obtain ⟨rv, d2, hr1⟩ := HROW.out x hltx
          have hbx : Below w.heap.size w wr := bx.trans (hb2.mono (by omega))
          obtain ⟨ao2, p2, o2, c2, H2⟩ := hr1.open
          have hv2 := H2.val
          subst hv2
          have hrl := HRL.out x hltx
          have A2 := H2.adr
          rw [hrl] at A2 d2
          have hzn : z.toNat < n := by omega
          have d3 := H2.cell z.toNat (by rw [hrl]; exact hzn)
          have i2 := idx_at Try.underlying32 size1_int (c := c2) A2 hzn .i64 z (by omega)
          have hkM : k < M.length := by omega
          obtain ⟨gu, cu2, hau, hcu2⟩ := own_some HR.out (by omega)
          injection hau with hau1 hau2 hau3
          subst hau1
          have d4 := HR.out.cellAt k (by omega)
          rw [show (M.map (Value.int .i64))[k]? = some (.int .i64 z) by rw [List.getElem?_map, List.getElem?_eq_getElem hkM, ← hgx]; simp [List.getD_eq_getElem?_getD, hkM]] at d4
          have i3 := idx_of Try.underlying32 size1_int (ao := some ⟨gu, 0, none⟩) (b := gu) (o := 0) (n := M.length) (c := cr) (fun _ => rfl) hkM .i64
          rw [Nat.zero_add] at i3
          have e2 := below_cell hbx d2
          have e3 := below_cell hbx d3
          obtain ⟨t, ht⟩ : ∃ t, t = toZ xss z x := ⟨_, rfl⟩
          have e3' : wr.cell? ⟨p2, o2 + z.toNat, none⟩ = some (.int .i64 t) := by rw [ht]; exact e3
          rw [← ht] at HSX
          have HCT := contains_any _ M t wr (ints_of_own HR.out)
          have le2 := block_lt_of_cell e2
          have le3 := block_lt_of_cell e3
          have le4 := block_lt_of_cell d4
          clear ht e3 d2 d3 hr1 H2 hgx hrl A2 hau2 hau3
          by_cases hin : t ∈ M
          · rw [show M.contains t = true by simpa using hin] at HCT
            have HC2 := Lib.hid HCT
            have HSY : Hid (rRow xss z L (x + 1) = M) := by unfold Hid; rw [HSX.out, addZ, if_pos hin]
            clear HCT hin HSX
            go_wp2_with fail
            refine HC2.out.mono ?_
            rintro e w4 ⟨rfl, rfl⟩
            go_wp2
            go_roundw
            case rel => exact ⟨x + 1, by omega, by go_num, by rw [HSY.out]; exact HR.out, hb2⟩
            case measure => simp [intOf]; omega
          · rw [show M.contains t = false by simpa using hin] at HCT
            have HC2 := Lib.hid HCT
            have HSY : Hid (rRow xss z L (x + 1) = M ++ [t]) := by unfold Hid; rw [HSX.out, addZ, if_neg hin]
            clear HCT hin HSX
            go_wp2_with fail
            refine HC2.out.mono ?_
            rintro e w4 ⟨rfl, rfl⟩
            have hlw : w.heap.size + 1 ≤ w4.heap.size := by have := hb2.size; simp at this; omega
            go_wp2_with (at_builtin; refine wpList_push elem_int rfl (.tmp 36) (.tmp 38) rfl (w.heap.size + 1) rfl HR.out _ rfl rfl (by unfold maxLen; omega) (by omega) hlw ?_; intro v6 w6 ho6 hg6 hs6)
            have HR6 := Lib.hid ho6
            have hb6 := Below.grown hb2 hg6 hlw (fun g hg => (own_block HR.out hg).1)
            clear ho6 hg6 hs6
            go_wp2
            go_roundw
            case rel => exact ⟨x + 1, by omega, by go_num, by rw [HSY.out, List.length_append, List.map_append]; exact HR6.out, hb6⟩
            case measure => simp [intOf]; omega
        · obtain rfl : x = xss.length := by omega
          have HMX2 : Hid (M = rTo xss s (k + 1)) := by unfold Hid; rw [HS2.out]; exact HMX.out
          go_wp2
          go_roundw
          case rel => exact ⟨k + 1, by unfold Hid; rw [← HMX2.out]; omega, by go_num, by rw [← HMX2.out]; exact HR.out, hb2⟩
          case measure => simp [intOf]; omega
    · have hst := HST.out (by omega)
      have HSO := Lib.hid (sorted_any _ L wr (ints_of_own HO.out) (by omega) (by have := HO.out.1; rw [hL]; cases k with | zero => simp [rTo] | succ k => (have := hkn; rw [hL] at this; omega)) HDD.out.nd)
      have HRC : Hid (putAll L = rcZs xss s) := by unfold Hid rcZs; rw [← hst]
      have hbw : Below w.heap.size w wr := bx.trans (hb.mono (by omega))
      clear hL hst HST HSU
      go_wp2_with fail
      refine HSO.out.mono ?_
      rintro e w4 ⟨v4, rfl, ho4, hb4⟩
      obtain ⟨a4, m4, c4, rfl, HM4⟩ := own_shape ho4
      rw [HRC.out] at ho4
      have HO4 := Lib.hid ho4
      have hsz := hbw.size
      have hbb := below_trans hbw hb4
      clear ho4
      go_wp2
      go_ret
      exact ⟨_, rfl, own_lo HO4.out hsz, hbb⟩

end Go.Proofs.Ytlgnbbfhejjodaa
