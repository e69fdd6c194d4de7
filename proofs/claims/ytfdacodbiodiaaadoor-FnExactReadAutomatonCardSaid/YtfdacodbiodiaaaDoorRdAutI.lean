/- ReadAutomaton of the program. -/
import Derived.Test.YtfdacodbiodiaaaDoorRdAut
import Derived.Test.YtfdacodbiodiaaaDoorRdPartS
import Derived.Test.YtfdacodbiodiaaaDoorTableL
import Derived.Test.YtfdacodbiodiaaaDoorValid
import Derived.Deep.AppendLies
import Derived.Deep.RegionLaw
import Derived.Test.YtfdacodbiodiaaaDoorFr
namespace Go.Proofs.YtfdacodbiodiaaaDoor
set_option linter.unusedVariables false
set_option linter.unusedSimpArgs false
open Go.ChangeShapes Go.WideShapes Go.ChangeAt Go.RowKit Go.Shelf

def rowN (w : List (List UInt8)) : List Int := w.map numL
theorem autL_of {s : ByteArray} {ls : List ByteArray} (C : CutOf 10 s ls) : autL s.data.toList = ((((cutL 32 (ls[0]'C.pos).data.toList).drop 1).map numL).headD 0, (linesF (ls.drop 1)).map rowN) := by
  unfold autL linesL linesF lineF rowN
  rw [C.head, C.drop 1]

set_option maxRecDepth 100000 in
set_option maxHeartbeats 8000000 in
theorem implReadAuto_any (s : ByteArray) (w : World) (E : Env w) (hs : s.size ≤ 1048576) :
    Calls Tryd.prog 17 #[.string s] w (NewAuto2 (raAns s).1 (raAns s).2.1 (raAns s).2.2 w) := by
  obtain ⟨W2, hW2⟩ : ∃ W2, W2 = w.alloc (.cells #[.int .i64 0, .slice none 0 0] 37) := ⟨_, rfl⟩
  have bx : Below w.heap.size w W2 := by rw [hW2]; exact below_alloc (Below.refl _ _) _
  have p4 : W2.cell? ⟨w.heap.size, 0, none⟩ = some (.int .i64 0) := by rw [hW2]; go_simp
  have p5 : W2.cell? ⟨w.heap.size, 1, none⟩ = some (.slice none 0 0) := by rw [hW2]; go_simp
  have g4 : W2.frozen? ⟨w.heap.size, 0, none⟩ = false := by rw [hW2]; go_simp
  have g5 : W2.frozen? ⟨w.heap.size, 1, none⟩ = false := by rw [hW2]; go_simp
  by_cases hbig : s.size ≤ 2000
  · have hcd0 : ¬ ((2000 : Int) < (s.size : Int)) := by omega
    have HSP := Lib.hid (split_any s 10 W2 (E.below bx) (by omega))
    have HNB := Lib.hid (fun (x : ByteArray) W (hW : Below w.heap.size w W) (hx : x.size ≤ 2000) => numbersBehind_any x W (E.below hW) hx)
    have HYES := Lib.hid (fun a xss hp hv ht => ra_yesL (t := s) hbig (a := a) (xss := xss) hp hv ht)
    have HNO := Lib.hid (fun a xss hp hn => ra_noL (t := s) hbig (a := a) (xss := xss) hp hn)
    have HPS := Lib.hid (fun ls (C : CutOf 10 s ls) => autL_of C)
    generalize raAns s = A at HYES HNO ⊢
    generalize autL s.data.toList = P at HYES HNO HPS
    have sW2 : W2.heap.size = w.heap.size + 1 := by rw [hW2]; simp
    obtain ⟨X2, hX2⟩ : ∃ X2, X2 = W2 := ⟨_, rfl⟩
    rw [← hX2] at HSP bx p4 p5 g4 g5 sW2
    rw [hW2] at hX2
    have HX2 := Lib.hid hX2
    subst hW2
    clear E hX2
    go_enter Tryd.func17, Tryd.ntmps17
    go_wp2_with fail
    rw [← HX2.out]
    refine HSP.out.mono ?_
    intro e w1 h1
    obtain ⟨ls, C, rfl, ho1, hb1⟩ := split_cut hbig h1
    have hpos := C.pos
    have hlen := C.len
    have hp1 : (1 : Int) ≤ (ls.length : Int) := by omega
    obtain ⟨gb, hgb⟩ : ∃ gb, gb = X2.heap.size := ⟨_, rfl⟩
    rw [← hgb] at ho1
    rw [← hgb]
    have HST0 : Hid (Strs w1 (.slice (some ⟨gb, 0, none⟩) ls.length ls.length) ls) := SlT.of_own ho1
    have HSZ := Lib.hid C.size
    have hR0 := HPS.out ls C
    have d0 := HST0.out.cells 0 hpos
    have hz0 : (ls[0]).size ≤ 2000 := by have := HSZ.out _ (List.getElem_mem hpos); omega
    have i0 := idx_at Tryd.underlying46 size1_stringR (ao := some ⟨gb, 0, none⟩) (b := gb) (o := 0) (n := ls.length) (c := ls.length) (fun _ => rfl) hpos .i64 0 rfl
    obtain ⟨x0, hx0⟩ : ∃ x0, x0 = ls[0] := ⟨_, rfl⟩
    rw [← hx0] at d0 hz0 hR0
    have bw1 := below_trans bx hb1
    replace p4 := below_cell hb1 p4
    replace p5 := below_cell hb1 p5
    have hzX : w.heap.size < X2.heap.size := by omega
    replace g4 := (hb1.frozen (p := ⟨w.heap.size, 0, none⟩) hzX).trans g4
    replace g5 := (hb1.frozen (p := ⟨w.heap.size, 1, none⟩) hzX).trans g5
    have hz1 := block_lt_of_cell p4
    clear h1 ho1 hb1 C hx0 hgb hzX sW2 bx
    go_wp2_with fail
    refine (HNB.out x0 _ bw1 hz0).mono ?_
    rintro e w2 ⟨v2, rfl, ho2, hb2⟩
    obtain ⟨H, hH⟩ : ∃ H, H = ((cutL 32 x0.data.toList).drop 1).map numL := ⟨_, rfl⟩
    rw [← hH] at ho2 hR0
    have bw2 := below_trans bw1 hb2
    have HST2 : Hid (Strs w2 (.slice (some ⟨gb, 0, none⟩) ls.length ls.length) ls) := SlT.below HST0.out hb2
    have q4 := below_cell hb2 p4
    have q5 := below_cell hb2 p5
    have f4 := (hb2.frozen (p := ⟨w.heap.size, 0, none⟩) hz1).trans g4
    have f5 := (hb2.frozen (p := ⟨w.heap.size, 1, none⟩) hz1).trans g5
    have hz2 := block_lt_of_cell q4
    obtain ⟨a2, m2, c2, rfl, HM2⟩ := own_shape ho2
    obtain rfl : m2 = H.length := HM2.out
    have HTL := Lib.hid (fun W (hW : Below w2.heap.size w2 W) (h1 : 1 < ls.length) => Strs.tail (SlT.below HST2.out hW) h1)
    have hlow2 := bw2.size
    clear HST0 d0 i0 hb2 bw1 hH p4 p5 g4 g5
    rcases H with _ | ⟨a, t⟩
    · have HR1 : Hid (P = (0, (linesF (ls.drop 1)).map rowN)) := hR0
      have HO0 : Hid (OutAt (w2.alloc (.cells #[.int .i64 0, .slice none 0 0] 37)) w2.heap.size (w2.heap.size + 1) 0 []) := ⟨_, [], by go_simp, by go_simp, by go_simp, ownRows_nil _ _⟩
      have hB0 : Below w2.heap.size w2 (w2.alloc (.cells #[.int .i64 0, .slice none 0 0] 37)) := below_alloc (Below.refl _ _) _
      clear hR0 ho2
      by_cases hone : ls.length = 1
      · go_wp2
        go_loopw [8, 30] (fun x i wr => ∃ (k : Nat) (zss : List (List Int)), k + 1 ≤ ls.length ∧ i = .int .i64 k ∧ zss.length ≤ k ∧ Hid (OutAt wr w2.heap.size (w2.heap.size + 1) 0 zss) ∧ Hid (zss = (linesF ((ls.drop 1).take k)).map rowN) ∧ Below w2.heap.size w2 wr) (fun _ i _ => ls.length - (intOf i).toNat)
        case atStart => exact ⟨0, [], by omega, rfl, Nat.le_refl _, HO0.out, rfl, hB0⟩
        case round =>
          obtain ⟨k, zss, hk, rfl, hzk0, HO, HM, hb⟩ := hrel
          have r4 := below_cell hb q4
          have r5 := below_cell hb q5
          have hf4 := (hb.frozen (p := ⟨w.heap.size, 0, none⟩) hz2).trans f4
          have hf5 := (hb.frozen (p := ⟨w.heap.size, 1, none⟩) hz2).trans f5
          have hzr : w.heap.size < wr.heap.size := block_lt_of_cell r4
          have hbb := below_trans bw2 hb
          by_cases hlt : k + 1 < ls.length
          · exact absurd hlt (by omega)
          · obtain rfl : k = ls.length - 1 := by omega
            have hcd : ¬ (((ls.length - 1 : Nat) : Int) < ((ls.length - 1 : Nat) : Int)) := by omega
            have hfull : P = (0, zss) := by
              have := HM.out
              rw [List.take_of_length_le (by rw [List.length_drop]; omega)] at this
              rw [HR1.out, this]
            obtain ⟨v0, rs, k0, k1, g1, ho⟩ := HO.out
            obtain ⟨av, mv, cv, rfl, HMv⟩ := own_shape ho.outer
            have C1 := Lib.hid (validAuto_any 0 _ zss wr ho.reads)
            have HOW := Lib.hid ho
            have lob : w2.heap.size < wr.heap.size := block_lt_of_cell k1
            have HYN := Lib.hid (fun hv ht => HYES.out 0 zss hfull hv ht)
            have HNN := Lib.hid (fun hn => HNO.out 0 zss hfull hn)
            have HTX := Lib.hid (fun W (hr : Rows2 W (.slice av mv cv) zss) => implAutoText_any 0 _ zss W hr)
            generalize autoTx 0 zss = tx at HTX HYN HNN
            generalize validB 0 zss = bv at C1 HYN HNN
            clear hfull HO HMv HM
            cases bv with
            | false =>
              have HA := Lib.hid (HNN.out (fun h => absurd h.1 (by simp)))
              clear ho
              go_wp2_with fail
              refine C1.out.mono ?_
              rintro e w8 ⟨rfl, hq2⟩
              have s4 := below_cell hq2 r4
              have s5 := below_cell hq2 r5
              have u4 := (hq2.frozen (p := ⟨w.heap.size, 0, none⟩) hzr).trans hf4
              have u5 := (hq2.frozen (p := ⟨w.heap.size, 1, none⟩) hzr).trans hf5
              have hz8 : w.heap.size < w8.heap.size := block_lt_of_cell s4
              have hbb2 := below_trans hbb hq2
              go_wp2
              rw [HA.out]
              exact bodyPost_ret (v := .tuple #[.agg #[.int .i64 0, .slice none 0 0], .int .i64 5]) (by simp [results, Tryd.results17, go_sem, s4, s5, hz8]) rfl ⟨_, [], rfl, ownRows_nil _ _, by repeat (first | exact hbb2 | refine below_set ?_ (by omega) _ _)⟩
            | true =>
              have HY2 := Lib.hid (fun ht => HYN.out rfl ht)
              clear ho HYN
              go_wp2_with fail
              refine C1.out.mono ?_
              rintro e w8 ⟨rfl, hq2⟩
              have m0 := below_cell hq2 k0
              have m1 := below_cell hq2 k1
              have s4 := below_cell hq2 r4
              have s5 := below_cell hq2 r5
              have u4 := (hq2.frozen (p := ⟨w.heap.size, 0, none⟩) hzr).trans hf4
              have u5 := (hq2.frozen (p := ⟨w.heap.size, 1, none⟩) hzr).trans hf5
              have hbb2 := below_trans hbb hq2
              have HO2 := Lib.hid (HOW.out.below hq2)
              have hz8 : w.heap.size < w8.heap.size := block_lt_of_cell s4
              have lob2 : w2.heap.size < w8.heap.size := block_lt_of_cell m0
              clear hq2 r4 r5 hf4 hf5 k0 k1
              go_wp2_with fail
              refine (HTX.out w8 HO2.out.reads).mono ?_
              rintro e w9 ⟨rfl, hb3⟩
              replace m0 := below_cell hb3 m0
              replace m1 := below_cell hb3 m1
              have v4 := below_cell hb3 s4
              have v5 := below_cell hb3 s5
              have x4 := (hb3.frozen (p := ⟨w.heap.size, 0, none⟩) hz8).trans u4
              have x5 := (hb3.frozen (p := ⟨w.heap.size, 1, none⟩) hz8).trans u5
              have hbb3 := below_trans hbb2 hb3
              have HO3 := Lib.hid (HO2.out.below hb3)
              have hz3 : w.heap.size < w9.heap.size := block_lt_of_cell v4
              have lob3 : w2.heap.size < w9.heap.size := block_lt_of_cell m0
              clear s4 s5 u4 u5
              by_cases hte : tx = s
              · have HA := Lib.hid (HY2.out hte)
                go_wp2
                rw [HA.out]
                refine bodyPost_ret (v := .tuple #[.agg #[.int .i64 0, .slice av mv cv], .int .i64 0]) (by simp [results, Tryd.results17, go_sem, v4, v5, hz3]) rfl ⟨_, rs, rfl, ?_, by repeat (first | exact hbb3 | refine below_set ?_ (by omega) _ _)⟩
                refine OwnRows.mono (lo := w2.heap.size + 1) ?_ (by omega)
                repeat (first | exact HO3.out | refine OwnRows.set_below ?_ (by first | omega | simp) _ _)
              · have hse : (tx.toList == s.toList) = false := by rw [ByteArray.toList_eq, ByteArray.toList_eq]; exact beq_eq_false_iff_ne.2 (fun h => hte (bytes_eq h))
                have HA := Lib.hid (HNN.out (fun h => hte h.2))
                clear hte
                go_wp2
                rw [HA.out]
                exact bodyPost_ret (v := .tuple #[.agg #[.int .i64 0, .slice none 0 0], .int .i64 5]) (by simp [results, Tryd.results17, go_sem, v4, v5, hz3]) rfl ⟨_, [], rfl, ownRows_nil _ _, by repeat (first | exact hbb3 | refine below_set ?_ (by omega) _ _)⟩
      · go_wp2
        go_loopw [8, 30] (fun x i wr => ∃ (k : Nat) (zss : List (List Int)), k + 1 ≤ ls.length ∧ i = .int .i64 k ∧ zss.length ≤ k ∧ Hid (OutAt wr w2.heap.size (w2.heap.size + 1) 0 zss) ∧ Hid (zss = (linesF ((ls.drop 1).take k)).map rowN) ∧ Below w2.heap.size w2 wr) (fun _ i _ => ls.length - (intOf i).toNat)
        case atStart => exact ⟨0, [], by omega, rfl, Nat.le_refl _, HO0.out, rfl, hB0⟩
        case round =>
          obtain ⟨k, zss, hk, rfl, hzk0, HO, HM, hb⟩ := hrel
          have r4 := below_cell hb q4
          have r5 := below_cell hb q5
          have hf4 := (hb.frozen (p := ⟨w.heap.size, 0, none⟩) hz2).trans f4
          have hf5 := (hb.frozen (p := ⟨w.heap.size, 1, none⟩) hz2).trans f5
          have hzr : w.heap.size < wr.heap.size := block_lt_of_cell r4
          have hbb := below_trans bw2 hb
          by_cases hlt : k + 1 < ls.length
          · have HTW := Lib.hid (HTL.out wr hb (by omega))
            obtain ⟨at1, bt, ot, ct, T⟩ := Strs.open HTW.out
            have hvt := T.val
            have hat := T.adr (by rw [List.length_drop]; omega)
            injection hvt with hvt1 hvt2 hvt3
            rw [hat] at hvt1
            injection hvt1 with hvt1
            injection hvt1 with q1 q2
            have hkd : k < (ls.drop 1).length := by rw [List.length_drop]; omega
            have d1 := T.cell k hkd
            rw [← q1, ← q2, Nat.add_comm 1 k] at d1
            have i1 := idx_of Tryd.underlying46 size1_stringR (ao := some ⟨gb, 1, none⟩) (b := gb) (o := 1) (n := ls.length - 1) (c := ls.length - 1) (fun _ => rfl) (show k < ls.length - 1 by omega) .i64
            rw [Nat.add_comm 1 k] at i1
            have hzk : ((ls.drop 1)[k]).size ≤ 2000 := by have := HSZ.out _ (List.mem_of_mem_drop (List.getElem_mem hkd)); omega
            have HSTP := Lib.hid (linesF_step hkd)
            obtain ⟨x, hx⟩ : ∃ x, x = (ls.drop 1)[k] := ⟨_, rfl⟩
            rw [← hx] at d1 hzk HSTP
            have hcd : (k : Int) < ((ls.length - 1 : Nat) : Int) := by omega
            have ld1 := block_lt_of_cell d1
            clear T hvt2 hvt3 q1 q2 hat hx
            by_cases hxe : x.data.toList = []
            · have hse : (x.toList == []) = true := by rw [ByteArray.toList_eq, hxe]; rfl
              have HS2 := HSTP.out
              rw [if_pos hxe, List.append_nil] at HS2
              have HS3 := Lib.hid HS2
              clear HS2 hxe
              go_wp2
              go_roundw
              case rel => exact ⟨k + 1, zss, by omega, by go_num, by omega, HO.out, by unfold Hid; rw [HS3.out]; exact HM.out, hb⟩
              case measure => simp [intOf]; omega
            · have hse : (x.toList == []) = false := by rw [ByteArray.toList_eq]; exact beq_eq_false_iff_ne.2 hxe
              have HS2 := HSTP.out
              rw [if_neg hxe] at HS2
              obtain ⟨yk, hyk⟩ : ∃ yk, yk = ((cutL 32 x.data.toList).drop 1).map numL := ⟨_, rfl⟩
              have HNX : Hid (zss ++ [yk] = (linesF ((ls.drop 1).take (k + 1))).map rowN) := by unfold Hid; rw [HS2, List.map_append, ← HM.out, hyk]; rfl
              have HCK := Lib.hid (fun W (hW : Below w.heap.size w W) => HNB.out x W hW hzk)
              rw [← hyk] at HCK
              obtain ⟨v0, rs, k0, k1, g1, ho⟩ := HO.out
              obtain ⟨av, mv, cv, rfl, HMv⟩ := own_shape ho.outer
              have HOU := Lib.hid ho.outer
              have HOW := Lib.hid ho
              have hlob : w2.heap.size < wr.heap.size := block_lt_of_cell k1
              clear HS2 hxe hyk ho HO HMv HM
              go_wp2
              have hbd := hbb.drew
              go_region_law
                (first
                  | (have j0 := below_cell (below_alloc hb5 (.cells #[.slice a4 m4 c4] 45)) k0; have j1 := below_cell (below_alloc hb5 (.cells #[.slice a4 m4 c4] 45)) k1; have q1 := ((below_alloc hb5 (.cells #[.slice a4 m4 c4] 45)).frozen (p := ⟨w2.heap.size, 1, none⟩) hlob).trans g1; have hz5 : wr.heap.size ≤ w4.heap.size := hb5.size; refine step_appG elem_ints rfl (.tmp 37) (.tmp 40) rfl (w2.heap.size + 1) rfl (own_below HOU.out (below_alloc hb5 (.cells #[.slice a4 m4 c4] 45))) w4.heap.size (.slice a4 m4 c4) rfl (by go_simp) rfl (by unfold maxLen; omega) (by omega) (by simp; omega) ?_; intro v6 w6 ho6 hg6; obtain ⟨a6, m6, c6, rfl, HM6⟩ := own_shape ho6; have rc1 := grown_cell hg6 (own_below HOU.out (below_alloc hb5 (.cells #[.slice a4 m4 c4] 45))) (by omega) j1; have rc2 := grown_frozen hg6 (own_below HOU.out (below_alloc hb5 (.cells #[.slice a4 m4 c4] 45))) (by omega) j1 q1; have HK6 : Hid (Below w2.heap.size w2 w6) := Below.grown ((hb.trans (hb5.mono (Nat.le_of_lt hlob))).alloc (by omega) _) hg6 (by simp; omega) (fun g hg => by have := own_block HOU.out hg; omega))
                  | (go_simp; go_at_call 43; (with_reducible refine (HCK.out _ (by assumption)).mono ?_); rintro e w4 ⟨v4, rfl, ho4, hb4⟩; obtain ⟨a4, m4, c4, rfl, HM4⟩ := own_shape ho4; have hb5 : Below wr.heap.size wr w4 := (by first | exact hb4 | exact below_trans ((Below.refl wr.heap.size wr).drew) hb4); have k14 := below_cell hb5 k1; have lob4 : w2.heap.size < w4.heap.size := block_lt_of_cell k14))
              all_goals
                have hr5 : (w4.alloc (.cells #[.slice a4 m4 c4] 45)).ownsRow wr.heap.size 2 1 (.slice a4 m4 c4) yk.length (yk.map (Value.int .i64)) := World.ownsRow.alloc ho4 _
                have hout := OutAt.pushed (HOW.out.below (below_alloc hb5 (.cells #[.slice a4 m4 c4] 45))) j0 j1 q1 (by omega) hg6 ho6 hr5 (by omega) (HOW.out.apart_new hr5)
                have HOUT := Lib.hid hout
                have HB7 := Lib.hid (HK6.out.setCell (p := ⟨w2.heap.size, 1, none⟩) (Nat.le_refl _) (.slice a6 m6 c6))
                clear hout hr5 ho4 ho6 hg6 j0 j1 q1
                go_wp2
                go_roundw
                case rel => exact ⟨k + 1, zss ++ [yk], by omega, by go_num, by simp; omega, HOUT.out, HNX.out, HB7.out⟩
                case measure => simp [intOf]; omega
          · obtain rfl : k = ls.length - 1 := by omega
            have hcd : ¬ (((ls.length - 1 : Nat) : Int) < ((ls.length - 1 : Nat) : Int)) := by omega
            have hfull : P = (0, zss) := by
              have := HM.out
              rw [List.take_of_length_le (by rw [List.length_drop]; omega)] at this
              rw [HR1.out, this]
            obtain ⟨v0, rs, k0, k1, g1, ho⟩ := HO.out
            obtain ⟨av, mv, cv, rfl, HMv⟩ := own_shape ho.outer
            have C1 := Lib.hid (validAuto_any 0 _ zss wr ho.reads)
            have HOW := Lib.hid ho
            have lob : w2.heap.size < wr.heap.size := block_lt_of_cell k1
            have HYN := Lib.hid (fun hv ht => HYES.out 0 zss hfull hv ht)
            have HNN := Lib.hid (fun hn => HNO.out 0 zss hfull hn)
            have HTX := Lib.hid (fun W (hr : Rows2 W (.slice av mv cv) zss) => implAutoText_any 0 _ zss W hr)
            generalize autoTx 0 zss = tx at HTX HYN HNN
            generalize validB 0 zss = bv at C1 HYN HNN
            clear hfull HO HMv HM
            cases bv with
            | false =>
              have HA := Lib.hid (HNN.out (fun h => absurd h.1 (by simp)))
              clear ho
              go_wp2_with fail
              refine C1.out.mono ?_
              rintro e w8 ⟨rfl, hq2⟩
              have s4 := below_cell hq2 r4
              have s5 := below_cell hq2 r5
              have u4 := (hq2.frozen (p := ⟨w.heap.size, 0, none⟩) hzr).trans hf4
              have u5 := (hq2.frozen (p := ⟨w.heap.size, 1, none⟩) hzr).trans hf5
              have hz8 : w.heap.size < w8.heap.size := block_lt_of_cell s4
              have hbb2 := below_trans hbb hq2
              go_wp2
              rw [HA.out]
              exact bodyPost_ret (v := .tuple #[.agg #[.int .i64 0, .slice none 0 0], .int .i64 5]) (by simp [results, Tryd.results17, go_sem, s4, s5, hz8]) rfl ⟨_, [], rfl, ownRows_nil _ _, by repeat (first | exact hbb2 | refine below_set ?_ (by omega) _ _)⟩
            | true =>
              have HY2 := Lib.hid (fun ht => HYN.out rfl ht)
              clear ho HYN
              go_wp2_with fail
              refine C1.out.mono ?_
              rintro e w8 ⟨rfl, hq2⟩
              have m0 := below_cell hq2 k0
              have m1 := below_cell hq2 k1
              have s4 := below_cell hq2 r4
              have s5 := below_cell hq2 r5
              have u4 := (hq2.frozen (p := ⟨w.heap.size, 0, none⟩) hzr).trans hf4
              have u5 := (hq2.frozen (p := ⟨w.heap.size, 1, none⟩) hzr).trans hf5
              have hbb2 := below_trans hbb hq2
              have HO2 := Lib.hid (HOW.out.below hq2)
              have hz8 : w.heap.size < w8.heap.size := block_lt_of_cell s4
              have lob2 : w2.heap.size < w8.heap.size := block_lt_of_cell m0
              clear hq2 r4 r5 hf4 hf5 k0 k1
              go_wp2_with fail
              refine (HTX.out w8 HO2.out.reads).mono ?_
              rintro e w9 ⟨rfl, hb3⟩
              replace m0 := below_cell hb3 m0
              replace m1 := below_cell hb3 m1
              have v4 := below_cell hb3 s4
              have v5 := below_cell hb3 s5
              have x4 := (hb3.frozen (p := ⟨w.heap.size, 0, none⟩) hz8).trans u4
              have x5 := (hb3.frozen (p := ⟨w.heap.size, 1, none⟩) hz8).trans u5
              have hbb3 := below_trans hbb2 hb3
              have HO3 := Lib.hid (HO2.out.below hb3)
              have hz3 : w.heap.size < w9.heap.size := block_lt_of_cell v4
              have lob3 : w2.heap.size < w9.heap.size := block_lt_of_cell m0
              clear s4 s5 u4 u5
              by_cases hte : tx = s
              · have HA := Lib.hid (HY2.out hte)
                go_wp2
                rw [HA.out]
                refine bodyPost_ret (v := .tuple #[.agg #[.int .i64 0, .slice av mv cv], .int .i64 0]) (by simp [results, Tryd.results17, go_sem, v4, v5, hz3]) rfl ⟨_, rs, rfl, ?_, by repeat (first | exact hbb3 | refine below_set ?_ (by omega) _ _)⟩
                refine OwnRows.mono (lo := w2.heap.size + 1) ?_ (by omega)
                repeat (first | exact HO3.out | refine OwnRows.set_below ?_ (by first | omega | simp) _ _)
              · have hse : (tx.toList == s.toList) = false := by rw [ByteArray.toList_eq, ByteArray.toList_eq]; exact beq_eq_false_iff_ne.2 (fun h => hte (bytes_eq h))
                have HA := Lib.hid (HNN.out (fun h => hte h.2))
                clear hte
                go_wp2
                rw [HA.out]
                exact bodyPost_ret (v := .tuple #[.agg #[.int .i64 0, .slice none 0 0], .int .i64 5]) (by simp [results, Tryd.results17, go_sem, v4, v5, hz3]) rfl ⟨_, [], rfl, ownRows_nil _ _, by repeat (first | exact hbb3 | refine below_set ?_ (by omega) _ _)⟩
    · have HR1 : Hid (P = (a, (linesF (ls.drop 1)).map rowN)) := hR0
      obtain ⟨ga, ka, hva, _⟩ := own_some ho2 (by simp)
      injection hva with hv1 hv2 hv3
      subst hv1
      have z0 : w2.cell? ⟨ga, 0, none⟩ = some (.int .i64 a) := by rw [ho2.cellAt 0 (by simp)]; simp
      have n0 := idx_at Tryd.underlying45 size1_intR (ao := some ⟨ga, 0, none⟩) (b := ga) (o := 0) (n := t.length + 1) (c := c2) (fun _ => rfl) (show 0 < t.length + 1 by omega) .i64 0 rfl
      have hcd1 : (0 : Int) < (((t.length + 1 : Nat)) : Int) := by omega
      have HO0 : Hid (OutAt (w2.alloc (.cells #[.int .i64 a, .slice none 0 0] 37)) w2.heap.size (w2.heap.size + 1) a []) := ⟨_, [], by go_simp, by go_simp, by go_simp, ownRows_nil _ _⟩
      have hB0 : Below w2.heap.size w2 (w2.alloc (.cells #[.int .i64 a, .slice none 0 0] 37)) := below_alloc (Below.refl _ _) _
      have lz0 := block_lt_of_cell z0
      clear hR0 ho2 hv2 hv3
      by_cases hone : ls.length = 1
      · go_wp2
        go_loopw [8, 30] (fun x i wr => ∃ (k : Nat) (zss : List (List Int)), k + 1 ≤ ls.length ∧ i = .int .i64 k ∧ zss.length ≤ k ∧ Hid (OutAt wr w2.heap.size (w2.heap.size + 1) a zss) ∧ Hid (zss = (linesF ((ls.drop 1).take k)).map rowN) ∧ Below w2.heap.size w2 wr) (fun _ i _ => ls.length - (intOf i).toNat)
        case atStart => exact ⟨0, [], by omega, rfl, Nat.le_refl _, HO0.out, rfl, hB0⟩
        case round =>
          obtain ⟨k, zss, hk, rfl, hzk0, HO, HM, hb⟩ := hrel
          have r4 := below_cell hb q4
          have r5 := below_cell hb q5
          have hf4 := (hb.frozen (p := ⟨w.heap.size, 0, none⟩) hz2).trans f4
          have hf5 := (hb.frozen (p := ⟨w.heap.size, 1, none⟩) hz2).trans f5
          have hzr : w.heap.size < wr.heap.size := block_lt_of_cell r4
          have hbb := below_trans bw2 hb
          by_cases hlt : k + 1 < ls.length
          · exact absurd hlt (by omega)
          · obtain rfl : k = ls.length - 1 := by omega
            have hcd : ¬ (((ls.length - 1 : Nat) : Int) < ((ls.length - 1 : Nat) : Int)) := by omega
            have hfull : P = (a, zss) := by
              have := HM.out
              rw [List.take_of_length_le (by rw [List.length_drop]; omega)] at this
              rw [HR1.out, this]
            obtain ⟨v0, rs, k0, k1, g1, ho⟩ := HO.out
            obtain ⟨av, mv, cv, rfl, HMv⟩ := own_shape ho.outer
            have C1 := Lib.hid (validAuto_any a _ zss wr ho.reads)
            have HOW := Lib.hid ho
            have lob : w2.heap.size < wr.heap.size := block_lt_of_cell k1
            have HYN := Lib.hid (fun hv ht => HYES.out a zss hfull hv ht)
            have HNN := Lib.hid (fun hn => HNO.out a zss hfull hn)
            have HTX := Lib.hid (fun W (hr : Rows2 W (.slice av mv cv) zss) => implAutoText_any a _ zss W hr)
            generalize autoTx a zss = tx at HTX HYN HNN
            generalize validB a zss = bv at C1 HYN HNN
            clear hfull HO HMv HM
            cases bv with
            | false =>
              have HA := Lib.hid (HNN.out (fun h => absurd h.1 (by simp)))
              clear ho
              go_wp2_with fail
              refine C1.out.mono ?_
              rintro e w8 ⟨rfl, hq2⟩
              have s4 := below_cell hq2 r4
              have s5 := below_cell hq2 r5
              have u4 := (hq2.frozen (p := ⟨w.heap.size, 0, none⟩) hzr).trans hf4
              have u5 := (hq2.frozen (p := ⟨w.heap.size, 1, none⟩) hzr).trans hf5
              have hz8 : w.heap.size < w8.heap.size := block_lt_of_cell s4
              have hbb2 := below_trans hbb hq2
              go_wp2
              rw [HA.out]
              exact bodyPost_ret (v := .tuple #[.agg #[.int .i64 0, .slice none 0 0], .int .i64 5]) (by simp [results, Tryd.results17, go_sem, s4, s5, hz8]) rfl ⟨_, [], rfl, ownRows_nil _ _, by repeat (first | exact hbb2 | refine below_set ?_ (by omega) _ _)⟩
            | true =>
              have HY2 := Lib.hid (fun ht => HYN.out rfl ht)
              clear ho HYN
              go_wp2_with fail
              refine C1.out.mono ?_
              rintro e w8 ⟨rfl, hq2⟩
              have m0 := below_cell hq2 k0
              have m1 := below_cell hq2 k1
              have s4 := below_cell hq2 r4
              have s5 := below_cell hq2 r5
              have u4 := (hq2.frozen (p := ⟨w.heap.size, 0, none⟩) hzr).trans hf4
              have u5 := (hq2.frozen (p := ⟨w.heap.size, 1, none⟩) hzr).trans hf5
              have hbb2 := below_trans hbb hq2
              have HO2 := Lib.hid (HOW.out.below hq2)
              have hz8 : w.heap.size < w8.heap.size := block_lt_of_cell s4
              have lob2 : w2.heap.size < w8.heap.size := block_lt_of_cell m0
              clear hq2 r4 r5 hf4 hf5 k0 k1
              go_wp2_with fail
              refine (HTX.out w8 HO2.out.reads).mono ?_
              rintro e w9 ⟨rfl, hb3⟩
              replace m0 := below_cell hb3 m0
              replace m1 := below_cell hb3 m1
              have v4 := below_cell hb3 s4
              have v5 := below_cell hb3 s5
              have x4 := (hb3.frozen (p := ⟨w.heap.size, 0, none⟩) hz8).trans u4
              have x5 := (hb3.frozen (p := ⟨w.heap.size, 1, none⟩) hz8).trans u5
              have hbb3 := below_trans hbb2 hb3
              have HO3 := Lib.hid (HO2.out.below hb3)
              have hz3 : w.heap.size < w9.heap.size := block_lt_of_cell v4
              have lob3 : w2.heap.size < w9.heap.size := block_lt_of_cell m0
              clear s4 s5 u4 u5
              by_cases hte : tx = s
              · have HA := Lib.hid (HY2.out hte)
                go_wp2
                rw [HA.out]
                refine bodyPost_ret (v := .tuple #[.agg #[.int .i64 a, .slice av mv cv], .int .i64 0]) (by simp [results, Tryd.results17, go_sem, v4, v5, hz3]) rfl ⟨_, rs, rfl, ?_, by repeat (first | exact hbb3 | refine below_set ?_ (by omega) _ _)⟩
                refine OwnRows.mono (lo := w2.heap.size + 1) ?_ (by omega)
                repeat (first | exact HO3.out | refine OwnRows.set_below ?_ (by first | omega | simp) _ _)
              · have hse : (tx.toList == s.toList) = false := by rw [ByteArray.toList_eq, ByteArray.toList_eq]; exact beq_eq_false_iff_ne.2 (fun h => hte (bytes_eq h))
                have HA := Lib.hid (HNN.out (fun h => hte h.2))
                clear hte
                go_wp2
                rw [HA.out]
                exact bodyPost_ret (v := .tuple #[.agg #[.int .i64 0, .slice none 0 0], .int .i64 5]) (by simp [results, Tryd.results17, go_sem, v4, v5, hz3]) rfl ⟨_, [], rfl, ownRows_nil _ _, by repeat (first | exact hbb3 | refine below_set ?_ (by omega) _ _)⟩
      · go_wp2
        go_loopw [8, 30] (fun x i wr => ∃ (k : Nat) (zss : List (List Int)), k + 1 ≤ ls.length ∧ i = .int .i64 k ∧ zss.length ≤ k ∧ Hid (OutAt wr w2.heap.size (w2.heap.size + 1) a zss) ∧ Hid (zss = (linesF ((ls.drop 1).take k)).map rowN) ∧ Below w2.heap.size w2 wr) (fun _ i _ => ls.length - (intOf i).toNat)
        case atStart => exact ⟨0, [], by omega, rfl, Nat.le_refl _, HO0.out, rfl, hB0⟩
        case round =>
          obtain ⟨k, zss, hk, rfl, hzk0, HO, HM, hb⟩ := hrel
          have r4 := below_cell hb q4
          have r5 := below_cell hb q5
          have hf4 := (hb.frozen (p := ⟨w.heap.size, 0, none⟩) hz2).trans f4
          have hf5 := (hb.frozen (p := ⟨w.heap.size, 1, none⟩) hz2).trans f5
          have hzr : w.heap.size < wr.heap.size := block_lt_of_cell r4
          have hbb := below_trans bw2 hb
          by_cases hlt : k + 1 < ls.length
          · have HTW := Lib.hid (HTL.out wr hb (by omega))
            obtain ⟨at1, bt, ot, ct, T⟩ := Strs.open HTW.out
            have hvt := T.val
            have hat := T.adr (by rw [List.length_drop]; omega)
            injection hvt with hvt1 hvt2 hvt3
            rw [hat] at hvt1
            injection hvt1 with hvt1
            injection hvt1 with q1 q2
            have hkd : k < (ls.drop 1).length := by rw [List.length_drop]; omega
            have d1 := T.cell k hkd
            rw [← q1, ← q2, Nat.add_comm 1 k] at d1
            have i1 := idx_of Tryd.underlying46 size1_stringR (ao := some ⟨gb, 1, none⟩) (b := gb) (o := 1) (n := ls.length - 1) (c := ls.length - 1) (fun _ => rfl) (show k < ls.length - 1 by omega) .i64
            rw [Nat.add_comm 1 k] at i1
            have hzk : ((ls.drop 1)[k]).size ≤ 2000 := by have := HSZ.out _ (List.mem_of_mem_drop (List.getElem_mem hkd)); omega
            have HSTP := Lib.hid (linesF_step hkd)
            obtain ⟨x, hx⟩ : ∃ x, x = (ls.drop 1)[k] := ⟨_, rfl⟩
            rw [← hx] at d1 hzk HSTP
            have hcd : (k : Int) < ((ls.length - 1 : Nat) : Int) := by omega
            have ld1 := block_lt_of_cell d1
            clear T hvt2 hvt3 q1 q2 hat hx
            by_cases hxe : x.data.toList = []
            · have hse : (x.toList == []) = true := by rw [ByteArray.toList_eq, hxe]; rfl
              have HS2 := HSTP.out
              rw [if_pos hxe, List.append_nil] at HS2
              have HS3 := Lib.hid HS2
              clear HS2 hxe
              go_wp2
              go_roundw
              case rel => exact ⟨k + 1, zss, by omega, by go_num, by omega, HO.out, by unfold Hid; rw [HS3.out]; exact HM.out, hb⟩
              case measure => simp [intOf]; omega
            · have hse : (x.toList == []) = false := by rw [ByteArray.toList_eq]; exact beq_eq_false_iff_ne.2 hxe
              have HS2 := HSTP.out
              rw [if_neg hxe] at HS2
              obtain ⟨yk, hyk⟩ : ∃ yk, yk = ((cutL 32 x.data.toList).drop 1).map numL := ⟨_, rfl⟩
              have HNX : Hid (zss ++ [yk] = (linesF ((ls.drop 1).take (k + 1))).map rowN) := by unfold Hid; rw [HS2, List.map_append, ← HM.out, hyk]; rfl
              have HCK := Lib.hid (fun W (hW : Below w.heap.size w W) => HNB.out x W hW hzk)
              rw [← hyk] at HCK
              obtain ⟨v0, rs, k0, k1, g1, ho⟩ := HO.out
              obtain ⟨av, mv, cv, rfl, HMv⟩ := own_shape ho.outer
              have HOU := Lib.hid ho.outer
              have HOW := Lib.hid ho
              have hlob : w2.heap.size < wr.heap.size := block_lt_of_cell k1
              clear HS2 hxe hyk ho HO HMv HM
              go_wp2
              have hbd := hbb.drew
              go_region_law
                (first
                  | (have j0 := below_cell (below_alloc hb5 (.cells #[.slice a4 m4 c4] 45)) k0; have j1 := below_cell (below_alloc hb5 (.cells #[.slice a4 m4 c4] 45)) k1; have q1 := ((below_alloc hb5 (.cells #[.slice a4 m4 c4] 45)).frozen (p := ⟨w2.heap.size, 1, none⟩) hlob).trans g1; have hz5 : wr.heap.size ≤ w4.heap.size := hb5.size; refine step_appG elem_ints rfl (.tmp 37) (.tmp 40) rfl (w2.heap.size + 1) rfl (own_below HOU.out (below_alloc hb5 (.cells #[.slice a4 m4 c4] 45))) w4.heap.size (.slice a4 m4 c4) rfl (by go_simp) rfl (by unfold maxLen; omega) (by omega) (by simp; omega) ?_; intro v6 w6 ho6 hg6; obtain ⟨a6, m6, c6, rfl, HM6⟩ := own_shape ho6; have rc1 := grown_cell hg6 (own_below HOU.out (below_alloc hb5 (.cells #[.slice a4 m4 c4] 45))) (by omega) j1; have rc2 := grown_frozen hg6 (own_below HOU.out (below_alloc hb5 (.cells #[.slice a4 m4 c4] 45))) (by omega) j1 q1; have HK6 : Hid (Below w2.heap.size w2 w6) := Below.grown ((hb.trans (hb5.mono (Nat.le_of_lt hlob))).alloc (by omega) _) hg6 (by simp; omega) (fun g hg => by have := own_block HOU.out hg; omega))
                  | (go_simp; go_at_call 43; (with_reducible refine (HCK.out _ (by assumption)).mono ?_); rintro e w4 ⟨v4, rfl, ho4, hb4⟩; obtain ⟨a4, m4, c4, rfl, HM4⟩ := own_shape ho4; have hb5 : Below wr.heap.size wr w4 := (by first | exact hb4 | exact below_trans ((Below.refl wr.heap.size wr).drew) hb4); have k14 := below_cell hb5 k1; have lob4 : w2.heap.size < w4.heap.size := block_lt_of_cell k14))
              all_goals
                have hr5 : (w4.alloc (.cells #[.slice a4 m4 c4] 45)).ownsRow wr.heap.size 2 1 (.slice a4 m4 c4) yk.length (yk.map (Value.int .i64)) := World.ownsRow.alloc ho4 _
                have hout := OutAt.pushed (HOW.out.below (below_alloc hb5 (.cells #[.slice a4 m4 c4] 45))) j0 j1 q1 (by omega) hg6 ho6 hr5 (by omega) (HOW.out.apart_new hr5)
                have HOUT := Lib.hid hout
                have HB7 := Lib.hid (HK6.out.setCell (p := ⟨w2.heap.size, 1, none⟩) (Nat.le_refl _) (.slice a6 m6 c6))
                clear hout hr5 ho4 ho6 hg6 j0 j1 q1
                go_wp2
                go_roundw
                case rel => exact ⟨k + 1, zss ++ [yk], by omega, by go_num, by simp; omega, HOUT.out, HNX.out, HB7.out⟩
                case measure => simp [intOf]; omega
          · obtain rfl : k = ls.length - 1 := by omega
            have hcd : ¬ (((ls.length - 1 : Nat) : Int) < ((ls.length - 1 : Nat) : Int)) := by omega
            have hfull : P = (a, zss) := by
              have := HM.out
              rw [List.take_of_length_le (by rw [List.length_drop]; omega)] at this
              rw [HR1.out, this]
            obtain ⟨v0, rs, k0, k1, g1, ho⟩ := HO.out
            obtain ⟨av, mv, cv, rfl, HMv⟩ := own_shape ho.outer
            have C1 := Lib.hid (validAuto_any a _ zss wr ho.reads)
            have HOW := Lib.hid ho
            have lob : w2.heap.size < wr.heap.size := block_lt_of_cell k1
            have HYN := Lib.hid (fun hv ht => HYES.out a zss hfull hv ht)
            have HNN := Lib.hid (fun hn => HNO.out a zss hfull hn)
            have HTX := Lib.hid (fun W (hr : Rows2 W (.slice av mv cv) zss) => implAutoText_any a _ zss W hr)
            generalize autoTx a zss = tx at HTX HYN HNN
            generalize validB a zss = bv at C1 HYN HNN
            clear hfull HO HMv HM
            cases bv with
            | false =>
              have HA := Lib.hid (HNN.out (fun h => absurd h.1 (by simp)))
              clear ho
              go_wp2_with fail
              refine C1.out.mono ?_
              rintro e w8 ⟨rfl, hq2⟩
              have s4 := below_cell hq2 r4
              have s5 := below_cell hq2 r5
              have u4 := (hq2.frozen (p := ⟨w.heap.size, 0, none⟩) hzr).trans hf4
              have u5 := (hq2.frozen (p := ⟨w.heap.size, 1, none⟩) hzr).trans hf5
              have hz8 : w.heap.size < w8.heap.size := block_lt_of_cell s4
              have hbb2 := below_trans hbb hq2
              go_wp2
              rw [HA.out]
              exact bodyPost_ret (v := .tuple #[.agg #[.int .i64 0, .slice none 0 0], .int .i64 5]) (by simp [results, Tryd.results17, go_sem, s4, s5, hz8]) rfl ⟨_, [], rfl, ownRows_nil _ _, by repeat (first | exact hbb2 | refine below_set ?_ (by omega) _ _)⟩
            | true =>
              have HY2 := Lib.hid (fun ht => HYN.out rfl ht)
              clear ho HYN
              go_wp2_with fail
              refine C1.out.mono ?_
              rintro e w8 ⟨rfl, hq2⟩
              have m0 := below_cell hq2 k0
              have m1 := below_cell hq2 k1
              have s4 := below_cell hq2 r4
              have s5 := below_cell hq2 r5
              have u4 := (hq2.frozen (p := ⟨w.heap.size, 0, none⟩) hzr).trans hf4
              have u5 := (hq2.frozen (p := ⟨w.heap.size, 1, none⟩) hzr).trans hf5
              have hbb2 := below_trans hbb hq2
              have HO2 := Lib.hid (HOW.out.below hq2)
              have hz8 : w.heap.size < w8.heap.size := block_lt_of_cell s4
              have lob2 : w2.heap.size < w8.heap.size := block_lt_of_cell m0
              clear hq2 r4 r5 hf4 hf5 k0 k1
              go_wp2_with fail
              refine (HTX.out w8 HO2.out.reads).mono ?_
              rintro e w9 ⟨rfl, hb3⟩
              replace m0 := below_cell hb3 m0
              replace m1 := below_cell hb3 m1
              have v4 := below_cell hb3 s4
              have v5 := below_cell hb3 s5
              have x4 := (hb3.frozen (p := ⟨w.heap.size, 0, none⟩) hz8).trans u4
              have x5 := (hb3.frozen (p := ⟨w.heap.size, 1, none⟩) hz8).trans u5
              have hbb3 := below_trans hbb2 hb3
              have HO3 := Lib.hid (HO2.out.below hb3)
              have hz3 : w.heap.size < w9.heap.size := block_lt_of_cell v4
              have lob3 : w2.heap.size < w9.heap.size := block_lt_of_cell m0
              clear s4 s5 u4 u5
              by_cases hte : tx = s
              · have HA := Lib.hid (HY2.out hte)
                go_wp2
                rw [HA.out]
                refine bodyPost_ret (v := .tuple #[.agg #[.int .i64 a, .slice av mv cv], .int .i64 0]) (by simp [results, Tryd.results17, go_sem, v4, v5, hz3]) rfl ⟨_, rs, rfl, ?_, by repeat (first | exact hbb3 | refine below_set ?_ (by omega) _ _)⟩
                refine OwnRows.mono (lo := w2.heap.size + 1) ?_ (by omega)
                repeat (first | exact HO3.out | refine OwnRows.set_below ?_ (by first | omega | simp) _ _)
              · have hse : (tx.toList == s.toList) = false := by rw [ByteArray.toList_eq, ByteArray.toList_eq]; exact beq_eq_false_iff_ne.2 (fun h => hte (bytes_eq h))
                have HA := Lib.hid (HNN.out (fun h => hte h.2))
                clear hte
                go_wp2
                rw [HA.out]
                exact bodyPost_ret (v := .tuple #[.agg #[.int .i64 0, .slice none 0 0], .int .i64 5]) (by simp [results, Tryd.results17, go_sem, v4, v5, hz3]) rfl ⟨_, [], rfl, ownRows_nil _ _, by repeat (first | exact hbb3 | refine below_set ?_ (by omega) _ _)⟩
  · have hA := ra_big hbig
    generalize raAns s = A at hA ⊢
    have HA := Lib.hid hA
    have hcd0 : (2000 : Int) < (s.size : Int) := by omega
    have hz : w.heap.size < W2.heap.size := block_lt_of_cell p4
    subst hW2
    clear hA E
    go_enter Tryd.func17, Tryd.ntmps17
    go_wp2
    rw [HA.out]
    exact bodyPost_ret (v := .tuple #[.agg #[.int .i64 0, .slice none 0 0], .int .i64 2]) (by simp [results, Tryd.results17, go_sem, p4, p5, hz]) rfl ⟨_, [], rfl, ownRows_nil _ _, by repeat (first | exact bx | refine below_set ?_ (by omega) _ _)⟩
end Go.Proofs.YtfdacodbiodiaaaDoor
