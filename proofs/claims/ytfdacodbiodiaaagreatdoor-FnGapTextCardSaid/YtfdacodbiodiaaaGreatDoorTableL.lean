/- wordsBehind and tableLines of the program: tableLines computes linesL. -/
import Derived.Test.YtfdacodbiodiaaaGreatDoorBehind
namespace Go.Proofs.YtfdacodbiodiaaaGreatDoor
set_option linter.unusedVariables false
set_option linter.unusedSimpArgs false
open Go.ChangeShapes Go.WideShapes Go.ChangeAt Go.RowKit Go.Shelf

/-- texts, and their bytes -/
def WordsRet (ps : List (List UInt8)) (w : World) (e : Ending) (w' : World) : Prop :=
  ∃ v, ∃ bs : List ByteArray, e = .returned v ∧ Strs w' v bs ∧ bs.map (·.data.toList) = ps ∧ Below w.heap.size w w'
theorem Strs.tail {w : World} {g : Nat} {bs : List ByteArray} (h : Strs w (.slice (some ⟨g, 0, none⟩) bs.length bs.length) bs) (h1 : 1 < bs.length) : Strs w (.slice (some ⟨g, 1, none⟩) (bs.length - 1) (bs.length - 1)) (bs.drop 1) := by
  have hc := h.cells
  obtain ⟨ao, b, o, c', H, ht⟩ := h
  have hv := H.val
  have ha := H.adr (by simp; omega)
  have hl := H.len
  injection hv with hv
  rw [ha] at hv
  injection hv with hv
  injection hv with e1 e2
  subst e1
  refine ⟨_, g, 1, bs.length - 1, ⟨by rw [List.length_map, List.length_drop], fun _ => rfl, fun k hk => ?_, by rw [List.length_map] at hl ⊢; rw [List.length_drop]; omega⟩, fun _ => ht (by simp; omega)⟩
  rw [List.length_map, List.length_drop] at hk
  rw [hc (1 + k) (by omega)]
  have : k + 1 < bs.length := by omega
  simp [List.getD_eq_getElem?_getD, Nat.add_comm 1 k, this]
theorem Strs.nil (w : World) (ao : Option Addr) (c : Nat) : Strs w (.slice ao 0 c) [] :=
  ⟨ao, 0, 0, c, ⟨rfl, fun h => by simp at h, fun k hk => by simp at hk, by simp⟩, fun h => by simp at h⟩

set_option maxRecDepth 100000 in
set_option maxHeartbeats 4000000 in
theorem wordsBehind_any (s : ByteArray) (w : World) (E : Env w) (hs : s.size ≤ 2000) :
    Calls Tryz.prog 53 #[.string s] w (WordsRet ((cutL 32 s.data.toList).drop 1) w) := by
  obtain ⟨P, hP⟩ : ∃ P, P = (cutL 32 s.data.toList).drop 1 := ⟨_, rfl⟩
  rw [← hP]
  have HSP := Lib.hid (split_any s 32 w E (by omega))
  go_enter Tryz.func53, Tryz.ntmps53
  go_wp2_with fail
  refine HSP.out.mono ?_
  intro e w1 h1
  obtain ⟨bs, C, rfl, ho1, hb1⟩ := split_cut hs h1
  have hpos := C.pos
  have hp1 : (1 : Int) ≤ (bs.length : Int) := by omega
  have HST0 : Hid (Strs w1 (.slice (some ⟨w.heap.size, 0, none⟩) bs.length bs.length) bs) := SlT.of_own ho1
  have HDR : Hid ((bs.drop 1).map (·.data.toList) = P) := by unfold Hid; rw [hP, C.drop 1]
  clear h1 ho1 C hpos hP
  by_cases hone : bs.length = 1
  · have hnil : bs.drop 1 = [] := by apply List.drop_of_length_le; omega
    have HN : Hid (P = []) := by unfold Hid; rw [← HDR.out, hnil]; rfl
    clear hnil
    go_wp2
    go_ret
    rw [HN.out]
    exact ⟨_, [], rfl, Strs.nil _ _ _, rfl, hb1⟩
  · have HT := Lib.hid (HST0.out.tail (by omega))
    go_wp2
    go_ret
    exact ⟨_, _, rfl, HT.out, HDR.out, hb1⟩

/-- the first number, the words of the lines -/
def TableRet (r : Int × List (List (List UInt8))) (w : World) (e : Ending) (w' : World) : Prop :=
  ∃ v, ∃ bss : List (List ByteArray), e = .returned (.tuple #[.int .i64 r.1, v]) ∧ StrRows w' v bss ∧ bss.map (fun r => r.map (·.data.toList)) = r.2 ∧ Below w.heap.size w w'

def lineF (l : List UInt8) : List (List UInt8) := (cutL 32 l).drop 1
def linesF (ls : List ByteArray) : List (List (List UInt8)) := ((ls.map (·.data.toList)).filter (fun l => decide (l ≠ []))).map lineF
theorem linesF_step {ls : List ByteArray} {k : Nat} (h : k < ls.length) : linesF (ls.take (k + 1)) = linesF (ls.take k) ++ (if (ls[k]).data.toList = [] then [] else [lineF (ls[k]).data.toList]) := by
  unfold linesF
  rw [List.take_succ_eq_append_getElem h, List.map_append, List.filter_append, List.map_append]
  by_cases he : (ls[k]).data.toList = []
  · rw [if_pos he]; simp [he]
  · rw [if_neg he]; simp [he]
theorem linesF_len (ls : List ByteArray) : (linesF ls).length ≤ ls.length := by
  unfold linesF
  rw [List.length_map]
  exact Nat.le_trans (List.length_filter_le _ _) (by simp)

theorem linesL_small (t : List UInt8) : (linesL t).2.length ≤ t.length + 1 ∧ ∀ r ∈ (linesL t).2, r.length ≤ t.length + 1 ∧ ∀ p ∈ r, p.length ≤ t.length := by
  unfold linesL
  refine ⟨?_, fun r hr => ?_⟩
  · simp only [List.length_map]
    refine Nat.le_trans (List.length_filter_le _ _) ?_
    rw [List.length_drop]
    have := cutL_count 10 t
    omega
  · obtain ⟨l, hl, rfl⟩ := List.mem_map.1 hr
    have hl2 := cutL_size 10 t l (List.mem_of_mem_drop (List.mem_filter.1 hl).1)
    refine ⟨?_, fun p hp => ?_⟩
    · rw [List.length_drop]
      have := cutL_count 32 l
      omega
    · have := cutL_size 32 l p (List.mem_of_mem_drop hp)
      omega

set_option maxRecDepth 100000 in
set_option maxHeartbeats 4000000 in
theorem tableLines_any (s : ByteArray) (w : World) (E : Env w) (hs : s.size ≤ 2000) :
    Calls Tryz.prog 23 #[.string s] w (TableRet (linesL s.data.toList) w) := by
  obtain ⟨R, hR⟩ : ∃ R, R = linesL s.data.toList := ⟨_, rfl⟩
  rw [← hR]
  have HSP := Lib.hid (split_any s 10 w E (by omega))
  have HNB := Lib.hid (fun (x : ByteArray) W (hW : Below w.heap.size w W) (hx : x.size ≤ 2000) => numbersBehind_any x W (E.below hW) hx)
  have HWB := Lib.hid (fun (x : ByteArray) W (hW : Below w.heap.size w W) (hx : x.size ≤ 2000) => wordsBehind_any x W (E.below hW) hx)
  clear E
  go_enter Tryz.func23, Tryz.ntmps23
  go_wp2_with fail
  refine HSP.out.mono ?_
  intro e w1 h1
  obtain ⟨ls, C, rfl, ho1, hb1⟩ := split_cut hs h1
  have hpos := C.pos
  have hlen := C.len
  have hp1 : (1 : Int) ≤ (ls.length : Int) := by omega
  have HST0 : Hid (Strs w1 (.slice (some ⟨w.heap.size, 0, none⟩) ls.length ls.length) ls) := SlT.of_own ho1
  have HSZ := Lib.hid C.size
  have hR1 : R.1 = (((cutL 32 (ls[0]).data.toList).drop 1).map numL).headD 0 := by rw [hR]; unfold linesL; rw [C.head]
  have HR2 : Hid (linesF (ls.drop 1) = R.2) := by
    unfold Hid
    rw [hR]
    unfold linesL linesF lineF
    rw [C.drop 1]
  have d0 := HST0.out.cells 0 hpos
  have hz0 : (ls[0]).size ≤ 2000 := by have := HSZ.out _ (List.getElem_mem hpos); omega
  have i0 := idx_at Tryz.underlying61 size1_stringR (ao := some ⟨w.heap.size, 0, none⟩) (b := w.heap.size) (o := 0) (n := ls.length) (c := ls.length) (fun _ => rfl) hpos .i64 0 rfl
  obtain ⟨x0, hx0⟩ : ∃ x0, x0 = ls[0] := ⟨_, rfl⟩
  rw [← hx0] at d0 hz0 hR1
  have hbw := hb1
  have bw1 : Below w.heap.size w (w1.alloc (.cells #[] 61)) := below_alloc hb1 _
  have HE1 : Hid (OwnSR (w1.alloc (.cells #[] 61)) w1.heap.size (.slice (some ⟨w1.heap.size, 0, none⟩) 0 0) [] []) := ⟨own_empty w1 w1.heap.size (Nat.le_refl _) _, fun k hk => by simp at hk⟩
  have HST1 := Lib.hid (SlT.below HST0.out (below_alloc (Below.refl _ _) (.cells #[] 61)))
  have l0 := block_lt_of_cell d0
  clear h1 ho1 hb1 C hx0 hR
  go_wp2_with fail
  refine (HNB.out x0 _ bw1 hz0).mono ?_
  rintro e w2 ⟨v2, rfl, ho2, hb2⟩
  obtain ⟨H, hH⟩ : ∃ H, H = ((cutL 32 x0.data.toList).drop 1).map numL := ⟨_, rfl⟩
  rw [← hH] at ho2 hR1
  have bw2 := below_trans bw1 hb2
  have B12 : Below w1.heap.size w1 w2 := (below_alloc (Below.refl _ _) (.cells #[] 61)).trans (hb2.mono (by simp))
  have HE2 := Lib.hid (HE1.out.below hb2)
  have HB1 := Lib.hid hbw
  obtain ⟨a2, m2, c2, rfl, HM2⟩ := own_shape ho2
  obtain rfl : m2 = H.length := HM2.out
  have HLB := Lib.hid (linesF_len (ls.drop 1))
  have HTL := Lib.hid (fun W (hW : Below w1.heap.size w1 W) (h1 : 1 < ls.length) => Strs.tail (SlT.below HST0.out hW) h1)
  have hz0w : w.heap.size < w2.heap.size := by have := B12.size; have := hbw.size; omega
  clear HST1 HE1 d0 i0 hb2 bw1 hH
  rcases H with _ | ⟨a, t⟩
  · have HR1 : Hid (R.1 = 0) := hR1
    clear hR1 ho2
    by_cases hone : ls.length = 1
    · have HN : Hid (R.2 = []) := by unfold Hid; rw [← HR2.out, List.drop_of_length_le (by omega)]; rfl
      go_wp2
      refine wp_loop_rounds 1 ?_
      rw [rounds_succ]
      go_wp2
      go_ret2
      exact ⟨_, [], (by rw [HR1.out]; rfl), HE2.out.reads, HN.out.symm, bw2⟩
    · go_wp2
      go_loopw [6, 9, 26] (fun u x i wr => ∃ (k : Nat) (rs : List Value) (bss : List (List ByteArray)), k + 1 ≤ ls.length ∧ i = .int .i64 k ∧ Hid (OwnSR wr w1.heap.size u rs bss) ∧ bss.length ≤ k ∧ Hid (bss.map (fun r => r.map (·.data.toList)) = linesF ((ls.drop 1).take k)) ∧ Below w1.heap.size w1 wr) (fun _ _ i _ => ls.length - (intOf i).toNat)
      case atStart => exact ⟨0, [], [], by omega, rfl, HE2.out, Nat.le_refl _, rfl, B12⟩
      case round =>
        obtain ⟨k, rs, bss, hk, rfl, HO, hbk, HM, hb⟩ := hrel
        by_cases hlt : k + 1 < ls.length
        · have HTW := Lib.hid (HTL.out wr hb (by omega))
          obtain ⟨at1, bt, ot, ct, T⟩ := HTW.out.open
          have hvt := T.val
          have hat := T.adr (by rw [List.length_drop]; omega)
          injection hvt with hvt1 hvt2 hvt3
          rw [hat] at hvt1
          injection hvt1 with hvt1
          injection hvt1 with q1 q2
          have hkd : k < (ls.drop 1).length := by rw [List.length_drop]; omega
          have d1 := T.cell k hkd
          rw [← q1, ← q2, Nat.add_comm 1 k] at d1
          have i1 := idx_of Tryz.underlying61 size1_stringR (ao := some ⟨w.heap.size, 1, none⟩) (b := w.heap.size) (o := 1) (n := ls.length - 1) (c := ls.length - 1) (fun _ => rfl) (show k < ls.length - 1 by omega) .i64
          rw [Nat.add_comm 1 k] at i1
          have hzk : ((ls.drop 1)[k]).size ≤ 2000 := by have := HSZ.out _ (List.mem_of_mem_drop (List.getElem_mem hkd)); omega
          have HSTP := Lib.hid (linesF_step hkd)
          obtain ⟨x, hx⟩ : ∃ x, x = (ls.drop 1)[k] := ⟨_, rfl⟩
          rw [← hx] at d1 hzk HSTP
          have hcd : (k : Int) < ((ls.length - 1 : Nat) : Int) := by omega
          have hbw1 := HB1.out.trans (hb.mono HB1.out.size)
          have hlow := hb.size
          have HW := Lib.hid (HWB.out x wr hbw1 hzk)
          clear T hvt2 hvt3 q1 q2 hat hx
          by_cases hxe : x.data.toList = []
          · have hse : (x.toList == []) = true := by rw [ByteArray.toList_eq, hxe]; rfl
            have HS2 := HSTP.out
            rw [if_pos hxe, List.append_nil] at HS2
            have HS3 := Lib.hid HS2
            clear HS2 hxe
            go_wp2
            go_roundw
            case rel => exact ⟨k + 1, rs, bss, by omega, by go_num, HO.out, by omega, by unfold Hid; rw [HS3.out]; exact HM.out, hb⟩
            case measure => simp [intOf]; omega
          · have hse : (x.toList == []) = false := by rw [ByteArray.toList_eq]; exact beq_eq_false_iff_ne.2 hxe
            have HS2 := HSTP.out
            rw [if_neg hxe] at HS2
            have HS3 := Lib.hid HS2
            clear HS2 hxe
            go_wp2_with fail
            refine HW.out.mono ?_
            rintro e w4 ⟨v4, ws, rfl, hws, hwe, hb4⟩
            obtain ⟨av, bv, ov, cv, V⟩ := Strs.open hws
            have hvv := V.val
            subst hvv
            have HO4 := Lib.hid (HO.out.below hb4)
            have hb5 := hb.trans (hb4.mono hb.size)
            have hbl5 := hb5.size
            have HWS := Lib.hid hws
            have HWE := Lib.hid hwe
            clear hws hwe V
            go_wp2_with (at_builtin; refine wpList_push elem_strs rfl (.tmp 32) (.tmp 35) rfl w1.heap.size rfl HO4.out.outer _ rfl rfl (by unfold maxLen; omega) (by omega) hbl5 ?_; intro v6 w6 ho6 hg6 hs6)
            have hout := OwnSR.append HO4.out hg6 ho6 HWS.out
            have hb6 : Below w1.heap.size w1 w6 := Below.grown hb5 hg6 hb5.size (fun g hg => (own_block HO4.out.outer hg).1)
            have HOUT := Lib.hid hout
            clear ho6 hg6 hs6 hout
            go_wp2
            go_roundw
            case rel => exact ⟨k + 1, _, bss ++ [ws], by omega, by go_num, HOUT.out, by simp; omega, by unfold Hid; rw [HS3.out, List.map_append, HM.out]; unfold lineF; rw [← HWE.out]; rfl, hb6⟩
            case measure => simp [intOf]; omega
        · obtain rfl : k = ls.length - 1 := by omega
          have hcd : ¬ (((ls.length - 1 : Nat) : Int) < ((ls.length - 1 : Nat) : Int)) := by omega
          have hM := HM.out
          rw [List.take_of_length_le (by rw [List.length_drop]; omega), HR2.out] at hM
          have HM3 := Lib.hid hM
          have hbw1 := HB1.out.trans (hb.mono HB1.out.size)
          clear hM
          go_wp2
          go_ret2
          exact ⟨_, bss, (by rw [HR1.out]; rfl), HO.out.reads, HM3.out, hbw1⟩
  · have HR1 : Hid (R.1 = a) := hR1
    obtain ⟨ga, ka, hva, _⟩ := own_some ho2 (by simp)
    injection hva with hv1 hv2 hv3
    subst hv1
    have z0 : w2.cell? ⟨ga, 0, none⟩ = some (.int .i64 a) := by rw [ho2.cellAt 0 (by simp)]; simp
    have n0 := idx_at Tryz.underlying45 size1_intR (ao := some ⟨ga, 0, none⟩) (b := ga) (o := 0) (n := t.length + 1) (c := c2) (fun _ => rfl) (show 0 < t.length + 1 by omega) .i64 0 rfl
    have hcd0 : (0 : Int) < (((t.length + 1 : Nat)) : Int) := by omega
    clear hR1 ho2 hv2 hv3
    by_cases hone : ls.length = 1
    · have HN : Hid (R.2 = []) := by unfold Hid; rw [← HR2.out, List.drop_of_length_le (by omega)]; rfl
      go_wp2
      refine wp_loop_rounds 1 ?_
      rw [rounds_succ]
      go_wp2
      go_ret2
      exact ⟨_, [], (by rw [HR1.out]; rfl), HE2.out.reads, HN.out.symm, bw2⟩
    · go_wp2
      go_loopw [6, 9, 26] (fun u x i wr => ∃ (k : Nat) (rs : List Value) (bss : List (List ByteArray)), k + 1 ≤ ls.length ∧ i = .int .i64 k ∧ Hid (OwnSR wr w1.heap.size u rs bss) ∧ bss.length ≤ k ∧ Hid (bss.map (fun r => r.map (·.data.toList)) = linesF ((ls.drop 1).take k)) ∧ Below w1.heap.size w1 wr) (fun _ _ i _ => ls.length - (intOf i).toNat)
      case atStart => exact ⟨0, [], [], by omega, rfl, HE2.out, Nat.le_refl _, rfl, B12⟩
      case round =>
        obtain ⟨k, rs, bss, hk, rfl, HO, hbk, HM, hb⟩ := hrel
        by_cases hlt : k + 1 < ls.length
        · have HTW := Lib.hid (HTL.out wr hb (by omega))
          obtain ⟨at1, bt, ot, ct, T⟩ := HTW.out.open
          have hvt := T.val
          have hat := T.adr (by rw [List.length_drop]; omega)
          injection hvt with hvt1 hvt2 hvt3
          rw [hat] at hvt1
          injection hvt1 with hvt1
          injection hvt1 with q1 q2
          have hkd : k < (ls.drop 1).length := by rw [List.length_drop]; omega
          have d1 := T.cell k hkd
          rw [← q1, ← q2, Nat.add_comm 1 k] at d1
          have i1 := idx_of Tryz.underlying61 size1_stringR (ao := some ⟨w.heap.size, 1, none⟩) (b := w.heap.size) (o := 1) (n := ls.length - 1) (c := ls.length - 1) (fun _ => rfl) (show k < ls.length - 1 by omega) .i64
          rw [Nat.add_comm 1 k] at i1
          have hzk : ((ls.drop 1)[k]).size ≤ 2000 := by have := HSZ.out _ (List.mem_of_mem_drop (List.getElem_mem hkd)); omega
          have HSTP := Lib.hid (linesF_step hkd)
          obtain ⟨x, hx⟩ : ∃ x, x = (ls.drop 1)[k] := ⟨_, rfl⟩
          rw [← hx] at d1 hzk HSTP
          have hcd : (k : Int) < ((ls.length - 1 : Nat) : Int) := by omega
          have hbw1 := HB1.out.trans (hb.mono HB1.out.size)
          have hlow := hb.size
          have HW := Lib.hid (HWB.out x wr hbw1 hzk)
          clear T hvt2 hvt3 q1 q2 hat hx
          by_cases hxe : x.data.toList = []
          · have hse : (x.toList == []) = true := by rw [ByteArray.toList_eq, hxe]; rfl
            have HS2 := HSTP.out
            rw [if_pos hxe, List.append_nil] at HS2
            have HS3 := Lib.hid HS2
            clear HS2 hxe
            go_wp2
            go_roundw
            case rel => exact ⟨k + 1, rs, bss, by omega, by go_num, HO.out, by omega, by unfold Hid; rw [HS3.out]; exact HM.out, hb⟩
            case measure => simp [intOf]; omega
          · have hse : (x.toList == []) = false := by rw [ByteArray.toList_eq]; exact beq_eq_false_iff_ne.2 hxe
            have HS2 := HSTP.out
            rw [if_neg hxe] at HS2
            have HS3 := Lib.hid HS2
            clear HS2 hxe
            go_wp2_with fail
            refine HW.out.mono ?_
            rintro e w4 ⟨v4, ws, rfl, hws, hwe, hb4⟩
            obtain ⟨av, bv, ov, cv, V⟩ := Strs.open hws
            have hvv := V.val
            subst hvv
            have HO4 := Lib.hid (HO.out.below hb4)
            have hb5 := hb.trans (hb4.mono hb.size)
            have hbl5 := hb5.size
            have HWS := Lib.hid hws
            have HWE := Lib.hid hwe
            clear hws hwe V
            go_wp2_with (at_builtin; refine wpList_push elem_strs rfl (.tmp 32) (.tmp 35) rfl w1.heap.size rfl HO4.out.outer _ rfl rfl (by unfold maxLen; omega) (by omega) hbl5 ?_; intro v6 w6 ho6 hg6 hs6)
            have hout := OwnSR.append HO4.out hg6 ho6 HWS.out
            have hb6 : Below w1.heap.size w1 w6 := Below.grown hb5 hg6 hb5.size (fun g hg => (own_block HO4.out.outer hg).1)
            have HOUT := Lib.hid hout
            clear ho6 hg6 hs6 hout
            go_wp2
            go_roundw
            case rel => exact ⟨k + 1, _, bss ++ [ws], by omega, by go_num, HOUT.out, by simp; omega, by unfold Hid; rw [HS3.out, List.map_append, HM.out]; unfold lineF; rw [← HWE.out]; rfl, hb6⟩
            case measure => simp [intOf]; omega
        · obtain rfl : k = ls.length - 1 := by omega
          have hcd : ¬ (((ls.length - 1 : Nat) : Int) < ((ls.length - 1 : Nat) : Int)) := by omega
          have hM := HM.out
          rw [List.take_of_length_le (by rw [List.length_drop]; omega), HR2.out] at hM
          have HM3 := Lib.hid hM
          have hbw1 := HB1.out.trans (hb.mono HB1.out.size)
          clear hM
          go_wp2
          go_ret2
          exact ⟨_, bss, (by rw [HR1.out]; rfl), HO.out.reads, HM3.out, hbw1⟩
end Go.Proofs.YtfdacodbiodiaaaGreatDoor
