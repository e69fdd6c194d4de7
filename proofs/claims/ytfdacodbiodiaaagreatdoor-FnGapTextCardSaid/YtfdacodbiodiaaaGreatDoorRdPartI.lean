/- ReadPartial of the program. -/
import Derived.Test.YtfdacodbiodiaaaGreatDoorRdAll
import Derived.Test.YtfdacodbiodiaaaGreatDoorTableL
import Derived.Test.YtfdacodbiodiaaaGreatDoorValidPart
namespace Go.Proofs.YtfdacodbiodiaaaGreatDoor
set_option linter.unusedVariables false
set_option linter.unusedSimpArgs false
open Go.ChangeShapes Go.WideShapes Go.ChangeAt Go.RowKit

def rowL (w : List (List UInt8)) : List Int := w.map celL
theorem partL_lines (t : List UInt8) : partL t = ((linesL t).1, (linesL t).2.map rowL) := rfl
theorem tl_step {bs : List ByteArray} {j : Nat} (h : j < bs.length) : (tl bs).take (j + 1) = (tl bs).take j ++ [(bs[j]).data.toList] := by
  unfold tl
  rw [List.take_succ_eq_append_getElem (by simpa using h), List.getElem_map]

set_option maxRecDepth 100000 in
set_option maxHeartbeats 8000000 in
theorem implReadPart_any (s : ByteArray) (w : World) (E : Env w) (hs : s.size ≤ 1048576) :
    Calls Tryz.prog 7 #[.string s] w (NewAuto2 (rpAns s).1 (rpAns s).2.1 (rpAns s).2.2 w) := by
  obtain ⟨W2, hW2⟩ : ∃ W2, W2 = w.alloc (.cells #[.int .i64 0, .slice none 0 0] 26) := ⟨_, rfl⟩
  have bx : Below w.heap.size w W2 := by rw [hW2]; exact below_alloc (Below.refl _ _) _
  have p4 : W2.cell? ⟨w.heap.size, 0, none⟩ = some (.int .i64 0) := by rw [hW2]; go_simp
  have p5 : W2.cell? ⟨w.heap.size, 1, none⟩ = some (.slice none 0 0) := by rw [hW2]; go_simp
  have g4 : W2.frozen? ⟨w.heap.size, 0, none⟩ = false := by rw [hW2]; go_simp
  have g5 : W2.frozen? ⟨w.heap.size, 1, none⟩ = false := by rw [hW2]; go_simp
  by_cases hbig : s.size ≤ 2000
  · have hcd0 : ¬ ((2000 : Int) < (s.size : Int)) := by omega
    have HLN := Lib.hid (tableLines_any s W2 (E.below bx) hbig)
    have HPA := Lib.hid (fun (x : ByteArray) W (hW : Below w.heap.size w W) (hx : x.size ≤ 2000) => parse_any x W (E.below hW) (by omega))
    have HYES := Lib.hid (fun a xss hp hv ht => rp_yesL (t := s) hbig (a := a) (xss := xss) hp hv ht)
    have HNO := Lib.hid (fun a xss hp hn => rp_noL (t := s) hbig (a := a) (xss := xss) hp hn)
    have HPS := Lib.hid (partL_lines s.data.toList)
    have HSM := Lib.hid (linesL_small s.data.toList)
    rw [size_listG] at HSM
    generalize rpAns s = A at HYES HNO ⊢
    generalize partL s.data.toList = P at HYES HNO HPS
    generalize linesL s.data.toList = r at HLN HPS HSM
    subst hW2
    clear E
    go_enter Tryz.func7, Tryz.ntmps7
    go_wp2_with fail
    refine HLN.out.mono ?_
    rintro e w1 ⟨v, bss, rfl, hsr, hrp, hb1⟩
    obtain ⟨ao, ab, o, c, T⟩ := hsr.open
    have hv0 := T.val
    subst hv0
    have AD := T.adr
    have HROWS := Lib.hid hsr
    obtain ⟨st, hst⟩ : ∃ st, st = r.1 := ⟨_, rfl⟩
    rw [← hst]
    have HPT : Hid (P = (st, (tls bss).map rowL)) := by unfold Hid; rw [HPS.out, ← hrp, ← hst]; rfl
    have hbl : bss.length ≤ 2001 := by have := HSM.out.1; rw [← hrp, List.length_map] at this; omega
    have HLEN : Hid (∀ b ∈ bss, b.length ≤ 2001 ∧ ∀ x ∈ b, x.size ≤ 2000) := fun b hb => by
      have q2 := HSM.out.2
      rw [← hrp] at q2
      obtain ⟨q3, q4⟩ := q2 _ (List.mem_map_of_mem hb)
      refine ⟨by rw [List.length_map] at q3; omega, fun x hx => ?_⟩
      have := q4 _ (List.mem_map_of_mem hx)
      rw [size_listG] at this
      omega
    have q4 := below_cell hb1 p4
    have q5 := below_cell hb1 p5
    have f4 := (hb1.frozen (p := ⟨w.heap.size, 0, none⟩) (block_lt_of_cell p4)).trans g4
    have f5 := (hb1.frozen (p := ⟨w.heap.size, 1, none⟩) (block_lt_of_cell p5)).trans g5
    have bw1 := below_trans bx hb1
    have HO0 : Hid (OutAt (w1.alloc (.cells #[.int .i64 st, .slice none 0 0] 26)) w1.heap.size (w1.heap.size + 1) st []) := ⟨_, [], by go_simp, by go_simp, by go_simp, ownRows_nil _ _⟩
    have hB0 : Below w1.heap.size w1 (w1.alloc (.cells #[.int .i64 st, .slice none 0 0] 26)) := below_alloc (Below.refl _ _) _
    have hz0 : w.heap.size < w1.heap.size := block_lt_of_cell q4
    clear hrp hst hsr hb1 p4 p5 g4 g5 HSM HPS T
    go_wp2
    go_loopw [8, 9, 11, 12, 13, 27] (fun z8 z9 z11 z12 z13 i wr => ∃ (k : Nat) (zss : List (List Int)), k ≤ bss.length ∧ i = .int .i64 k ∧ zss.length = k ∧ Hid (OutAt wr w1.heap.size (w1.heap.size + 1) st zss) ∧ Hid (zss = ((tls bss).take k).map rowL) ∧ Below w1.heap.size w1 wr) (fun _ _ _ _ _ i _ => bss.length - (intOf i).toNat)
    case atStart => exact ⟨0, [], Nat.zero_le _, rfl, rfl, HO0.out, rfl, hB0⟩
    case round =>
      obtain ⟨k, zss, hk, rfl, hzl, HO, HT, hb⟩ := hrel
      have r4 := below_cell hb q4
      have r5 := below_cell hb q5
      have hf4 := (hb.frozen (p := ⟨w.heap.size, 0, none⟩) hz0).trans f4
      have hf5 := (hb.frozen (p := ⟨w.heap.size, 1, none⟩) hz0).trans f5
      have hzr : w.heap.size < wr.heap.size := block_lt_of_cell r4
      by_cases hlt : k < bss.length
      · have i1 := idx_of Tryz.underlying58 size1_strsR (c := c) AD hlt .i64
        obtain ⟨ao', ab', o', c', T⟩ := (HROWS.out.below hb).open
        have hvt := T.val
        injection hvt with hvt1 hvt2 hvt3
        obtain ⟨r1, d1, hr1⟩ := T.cell k hlt
        have had := T.adr (by omega)
        rw [← hvt1, AD (by omega)] at had
        injection had with had
        injection had with e1 e2
        rw [← e1, ← e2] at d1
        obtain ⟨aor, abr, orr, cr, V⟩ := Strs.open hr1
        have hvv := V.val
        subst hvv
        have HSTP := Lib.hid (tls_take hlt)
        obtain ⟨hrl, hrx⟩ := HLEN.out _ (List.getElem_mem hlt)
        obtain ⟨rw', hrw⟩ : ∃ rw', rw' = bss[k] := ⟨_, rfl⟩
        rw [← hrw] at d1 hr1 V HSTP hrl hrx
        have AR := V.adr
        have HX := Lib.hid hrx
        have HV := Lib.hid (fun j (hj : j < rw'.length) => V.cell j hj)
        obtain ⟨wo, rfl⟩ : ∃ wo : World, wo = wr := ⟨_, rfl⟩
        have HE2 := Lib.hid (own_empty wo wo.heap.size (Nat.le_refl _) 2)
        have hbe2 : Below wo.heap.size wo (wo.alloc (.cells #[] 2)) := below_alloc (Below.refl _ _) _
        have hlow := hb.size
        have hbwo := below_trans bw1 hb
        clear hrw hrx hvt1 hvt2 hvt3 e1 e2 T V hr1
        go_wp2
        go_loopw [9, 11, 12, 13, 34] (fun u z11 z12 z13 i wr => ∃ (j : Nat), i = .int .i64 j ∧ j ≤ rw'.length ∧ Hid (wr.ownsRow wo.heap.size 2 1 u j ((rowL ((tl rw').take j)).map (Value.int .i64))) ∧ Below wo.heap.size wo wr) (fun _ _ _ _ i _ => rw'.length - (intOf i).toNat)
        case atStart => exact ⟨0, rfl, Nat.zero_le _, HE2.out, hbe2⟩
        case round =>
          obtain ⟨j, rfl, hj1, HR, hb2⟩ := hrel
          by_cases hj : j < rw'.length
          · have i2 := idx_of Tryz.underlying61 size1_stringR (c := cr) AR hj .i64
            have t2 := below_cell hb2 (HV.out j hj)
            have HD := Lib.hid (tl_step hj)
            have hxs := HX.out _ (List.getElem_mem hj)
            obtain ⟨x, hx⟩ : ∃ x, x = rw'[j] := ⟨_, rfl⟩
            rw [← hx] at t2 HD hxs
            have HP := Lib.hid (HPA.out x wr (below_trans hbwo hb2) hxs)
            have lt2 := block_lt_of_cell t2
            clear hx
            go_wp2_with fail
            refine HP.out.mono ?_
            rintro e w5 ⟨err, rfl, hor, hb5⟩
            have HR5 := Lib.hid (own_below HR.out hb5)
            have hb25 := below_trans hb2 hb5
            have hb25s := hb25.size
            rcases hor with ⟨⟨y, _, hn, hc⟩, rfl⟩ | ⟨⟨_, hc⟩, te, pe, rfl⟩
            · rw [hn]
              have HC := Lib.hid hc
              clear hn hc
              go_wp2_with (at_builtin; refine wpList_push elem_intR rfl (.tmp 45) (.tmp 47) rfl wo.heap.size rfl HR5.out _ rfl rfl (by unfold maxLen; omega) (by omega) hb25s ?_; intro v6 w6 ho6 hg6 hs6)
              have hb6 : Below wo.heap.size wo w6 := Below.grown hb25 hg6 hb25.size (fun g hg => (own_block HR5.out hg).1)
              have HR6 := Lib.hid ho6
              clear ho6 hg6 hs6
              go_wp2
              go_roundw
              case rel => exact ⟨j + 1, by go_num, by omega, by unfold Hid; rw [HD.out]; unfold rowL at *; rw [List.map_append, List.map_append, List.map_singleton, HC.out]; exact HR6.out, hb6⟩
              case measure => simp [intOf]; omega
            · generalize numL x.data.toList = n0
              have HC := Lib.hid hc
              clear hc
              go_wp2_with (at_builtin; refine wpList_push elem_intR rfl (.tmp 45) (.tmp 47) rfl wo.heap.size rfl HR5.out _ rfl rfl (by unfold maxLen; omega) (by omega) hb25s ?_; intro v6 w6 ho6 hg6 hs6)
              have hb6 : Below wo.heap.size wo w6 := Below.grown hb25 hg6 hb25.size (fun g hg => (own_block HR5.out hg).1)
              have HR6 := Lib.hid ho6
              clear ho6 hg6 hs6
              go_wp2
              go_roundw
              case rel => exact ⟨j + 1, by go_num, by omega, by unfold Hid; rw [HD.out]; unfold rowL at *; rw [List.map_append, List.map_append, List.map_singleton, HC.out]; exact HR6.out, hb6⟩
              case measure => simp [intOf]; omega
          · obtain rfl : j = rw'.length := by omega
            obtain ⟨ys, hys⟩ : ∃ ys, ys = rowL (tl rw') := ⟨_, rfl⟩
            have hyl : ys.length = rw'.length := by rw [hys]; simp [rowL, tl]
            have hR := HR.out
            rw [List.take_of_length_le (by rw [tl_len]; exact Nat.le_refl _), ← hys, ← hyl] at hR
            have HNX : Hid (zss ++ [ys] = ((tls bss).take (k + 1)).map rowL) := by unfold Hid; rw [HSTP.out, List.map_append, ← HT.out, hys]; rfl
            have HRR := Lib.hid hR
            obtain ⟨ar, mr, cr2, rfl, HMr⟩ := own_shape hR
            obtain ⟨v0, rs, k0, k1, g1, ho⟩ := HO.out
            obtain ⟨av, mv, cv, rfl, HMv⟩ := own_shape ho.outer
            have hlob : w1.heap.size < wo.heap.size := block_lt_of_cell k1
            have kr0 := below_cell hb2 k0
            have kr1 := below_cell hb2 k1
            have gr1 := (hb2.frozen (p := ⟨w1.heap.size, 1, none⟩) hlob).trans g1
            have hor := ho.below hb2
            have lobr : w1.heap.size < wr.heap.size := block_lt_of_cell kr1
            have HOW := Lib.hid hor
            have HAP := Lib.hid (ho.apart_new hR)
            have hou := hor.outer
            rw [hzl] at hou
            have HOU := Lib.hid hou
            have hbw : Below w1.heap.size w1 wr := hb.trans (hb2.mono hb.size)
            have hbws := hbw.size
            clear hou hor ho HMv HMr HO hys hyl hR HR
            go_wp2_with (at_builtin; refine wpList_push elem_ints rfl (.tmp 51) (.tmp 53) rfl (w1.heap.size + 1) rfl HOU.out _ rfl rfl (by unfold maxLen; omega) (by omega) (by omega) ?_; intro v6 w6 ho6 hg6 hs6; obtain ⟨a6, m6, c6, rfl, HM6⟩ := own_shape ho6; have rc0 := grown_cell hg6 HOU.out (by omega) kr0; have rc1 := grown_cell hg6 HOU.out (by omega) kr1; have rc2 := grown_frozen hg6 HOU.out (by omega) kr1 gr1; have lob6 : w1.heap.size < w6.heap.size := block_lt_of_cell rc1)
            have hout := OutAt.pushed HOW.out kr0 kr1 gr1 (by omega) hg6 (by rw [hzl]; exact ho6) HRR.out (by omega) HAP.out
            have hb7 : Below w1.heap.size w1 w6 := Below.grown hbw hg6 hbw.size (fun g hg => by have := (own_block HOU.out hg).1; omega)
            have HOUT := Lib.hid hout
            have HB7 := Lib.hid (hb7.setCell (p := ⟨w1.heap.size, 1, none⟩) (Nat.le_refl _) (.slice a6 m6 c6))
            clear hout ho6 hg6 hs6 hb7
            go_wp2
            go_roundw
            case rel => exact ⟨k + 1, zss ++ [ys], by omega, by go_num, by simp; omega, HOUT.out, HNX.out, HB7.out⟩
            case measure => simp [intOf]; omega
      · obtain rfl : k = bss.length := by omega
        have hfull : P = (st, zss) := by
          have := HT.out
          rw [List.take_of_length_le (by simp [tls])] at this
          rw [HPT.out, this]
        obtain ⟨v0, rs, k0, k1, g1, ho⟩ := HO.out
        obtain ⟨av, mv, cv, rfl, HMv⟩ := own_shape ho.outer
        have C1 := Lib.hid (validPart_any st _ zss wr ho.reads)
        have HOW := Lib.hid ho
        have lob : w1.heap.size < wr.heap.size := block_lt_of_cell k1
        have hbb := below_trans bw1 hb
        have HYN := Lib.hid (fun hv ht => HYES.out st zss hfull hv ht)
        have HNN := Lib.hid (fun hn => HNO.out st zss hfull hn)
        have HTX := Lib.hid (fun W (hr : Rows2 W (.slice av mv cv) zss) => implPartText_any st _ zss W hr)
        generalize partTx st zss = tx at HTX HYN HNN
        generalize validP st zss = bv at C1 HYN HNN
        clear hfull HO HMv
        cases bv with
        | false =>
          have hA : A = (0, [], 5) := HNN.out (fun h => absurd h.1 (by simp))
          have HA := Lib.hid hA
          clear hA ho
          go_wp2_with fail
          refine C1.out.mono ?_
          rintro e w2 ⟨rfl, hq2⟩
          have s4 := below_cell hq2 r4
          have s5 := below_cell hq2 r5
          have u4 := (hq2.frozen (p := ⟨w.heap.size, 0, none⟩) hzr).trans hf4
          have u5 := (hq2.frozen (p := ⟨w.heap.size, 1, none⟩) hzr).trans hf5
          have hz2 : w.heap.size < w2.heap.size := block_lt_of_cell s4
          have hbb2 := below_trans hbb hq2
          go_wp2
          rw [HA.out]
          exact bodyPost_ret (v := .tuple #[.agg #[.int .i64 0, .slice none 0 0], .int .i64 5]) (by simp [results, Tryz.results7, go_sem, s4, s5, hz2]) rfl ⟨_, [], rfl, ownRows_nil _ _, by repeat (first | exact hbb2 | refine below_set ?_ (by omega) _ _)⟩
        | true =>
          have HY2 := Lib.hid (fun ht => HYN.out rfl ht)
          clear ho HYN
          go_wp2_with fail
          refine C1.out.mono ?_
          rintro e w2 ⟨rfl, hq2⟩
          have m0 := below_cell hq2 k0
          have m1 := below_cell hq2 k1
          have s4 := below_cell hq2 r4
          have s5 := below_cell hq2 r5
          have u4 := (hq2.frozen (p := ⟨w.heap.size, 0, none⟩) hzr).trans hf4
          have u5 := (hq2.frozen (p := ⟨w.heap.size, 1, none⟩) hzr).trans hf5
          have hbb2 := below_trans hbb hq2
          have HO2 := Lib.hid (HOW.out.below hq2)
          have hz2 : w.heap.size < w2.heap.size := block_lt_of_cell s4
          have lob2 : w1.heap.size < w2.heap.size := block_lt_of_cell m0
          clear hq2 r4 r5 hf4 hf5 k0 k1
          go_wp2_with fail
          refine (HTX.out w2 HO2.out.reads).mono ?_
          rintro e w3 ⟨rfl, hb3⟩
          replace m0 := below_cell hb3 m0
          replace m1 := below_cell hb3 m1
          have v4 := below_cell hb3 s4
          have v5 := below_cell hb3 s5
          have x4 := (hb3.frozen (p := ⟨w.heap.size, 0, none⟩) hz2).trans u4
          have x5 := (hb3.frozen (p := ⟨w.heap.size, 1, none⟩) hz2).trans u5
          have hbb3 := below_trans hbb2 hb3
          have HO3 := Lib.hid (HO2.out.below hb3)
          have hz3 : w.heap.size < w3.heap.size := block_lt_of_cell v4
          have lob3 : w1.heap.size < w3.heap.size := block_lt_of_cell m0
          clear s4 s5 u4 u5
          by_cases hte : tx = s
          · have HA := Lib.hid (HY2.out hte)
            go_wp2
            rw [HA.out]
            refine bodyPost_ret (v := .tuple #[.agg #[.int .i64 st, .slice av mv cv], .int .i64 0]) (by simp [results, Tryz.results7, go_sem, v4, v5, hz3]) rfl ⟨_, rs, rfl, ?_, by repeat (first | exact hbb3 | refine below_set ?_ (by omega) _ _)⟩
            refine OwnRows.mono (lo := w1.heap.size + 1) ?_ (by omega)
            repeat (first | exact HO3.out | refine OwnRows.set_below ?_ (by first | omega | simp) _ _)
          · have hse : (tx.toList == s.toList) = false := by rw [ByteArray.toList_eq, ByteArray.toList_eq]; exact beq_eq_false_iff_ne.2 (fun h => hte (bytes_eq h))
            have HA := Lib.hid (HNN.out (fun h => hte h.2))
            clear hte
            go_wp2
            rw [HA.out]
            exact bodyPost_ret (v := .tuple #[.agg #[.int .i64 0, .slice none 0 0], .int .i64 5]) (by simp [results, Tryz.results7, go_sem, v4, v5, hz3]) rfl ⟨_, [], rfl, ownRows_nil _ _, by repeat (first | exact hbb3 | refine below_set ?_ (by omega) _ _)⟩
  · have hA := rp_big hbig
    generalize rpAns s = A at hA ⊢
    subst hA
    have hcd0 : (2000 : Int) < (s.size : Int) := by omega
    have hz : w.heap.size < W2.heap.size := block_lt_of_cell p4
    subst hW2
    clear E
    go_enter Tryz.func7, Tryz.ntmps7
    go_wp2
    exact bodyPost_ret (v := .tuple #[.agg #[.int .i64 0, .slice none 0 0], .int .i64 2]) (by simp [results, Tryz.results7, go_sem, p4, p5, hz]) rfl ⟨_, [], rfl, ownRows_nil _ _, by repeat (first | exact bx | refine below_set ?_ (by omega) _ _)⟩
end Go.Proofs.YtfdacodbiodiaaaGreatDoor
