/- numbersBehind and wordsBehind of the program. -/
import Derived.Test.YtfdacodbiodiaaaGreatDoorStrIn
import Derived.Test.YtfdacodbiodiaaaGreatDoorLines
import Derived.Test.YtfdacodbiodiaaaGreatDoorNew
import Derived.Test.YtfdacodbiodiaaaGreatDoorPush
namespace Go.Proofs.YtfdacodbiodiaaaGreatDoor
set_option linter.unusedVariables false
set_option linter.unusedSimpArgs false
open Go.ChangeShapes Go.WideShapes Go.ChangeAt Go.RowKit Go.Shelf

theorem split_cut {s : ByteArray} {c : UInt8} {w : World} {e : Ending} {w' : World} (hs : s.size ≤ 2000) (h : SplitRet (cutL c s.data.toList) w e w') :
    ∃ bs : List ByteArray, CutOf c s bs ∧ e = .returned (.slice (some ⟨w.heap.size, 0, none⟩) bs.length bs.length) ∧ w'.ownsRow w.heap.size 9 1 (.slice (some ⟨w.heap.size, 0, none⟩) bs.length bs.length) bs.length (bs.map Value.string) ∧ Below w.heap.size w w' := by
  obtain ⟨bs, h1, rfl, rfl⟩ := h
  have C : CutOf c s bs := ⟨h1⟩
  have hl := C.len
  refine ⟨bs, C, rfl, ⟨by simp, .inr ⟨w.heap.size, bs.length, (bs.map Value.string).toArray, rfl, Nat.le_refl _, heap_alloc_new _ _, Nat.le_refl _, by unfold maxLen; omega, by simp, ?_⟩⟩, below_alloc (Below.refl _ _) _⟩
  rw [Nat.mul_one, List.take_of_length_le (by simp)]

theorem Strs.cells {w : World} {g c : Nat} {bs : List ByteArray} (h : Strs w (.slice (some ⟨g, 0, none⟩) bs.length c) bs) : ∀ k (hk : k < bs.length), w.cell? ⟨g, k, none⟩ = some (.string bs[k]) := by
  intro k hk
  obtain ⟨ao, b, o, c', H⟩ := h.open
  have hv := H.val
  have ha := H.adr (by omega)
  injection hv with hv
  rw [ha] at hv
  injection hv with hv
  injection hv with h1 h2
  have := H.cell k hk
  rw [← h1, ← h2, Nat.zero_add] at this
  exact this

set_option maxRecDepth 100000 in
set_option maxHeartbeats 4000000 in
theorem numbersBehind_any (s : ByteArray) (w : World) (E : Env w) (hs : s.size ≤ 2000) :
    Calls Tryz.prog 52 #[.string s] w (NewInts (((cutL 32 s.data.toList).drop 1).map numL) w) := by
  obtain ⟨P, hP⟩ : ∃ P, P = ((cutL 32 s.data.toList).drop 1).map numL := ⟨_, rfl⟩
  rw [← hP]
  have HSP := Lib.hid (fun W (hW : Below w.heap.size w W) => split_any s 32 W (E.below hW) (by omega))
  have HPA := Lib.hid (fun (x : ByteArray) W (hW : Below w.heap.size w W) (hx : x.size ≤ 2000) => parse_any x W (E.below hW) (by omega))
  have HE := Lib.hid (own_empty w w.heap.size (Nat.le_refl _) 2)
  have hbe : Below w.heap.size w (w.alloc (.cells #[] 2)) := below_alloc (Below.refl _ _) _
  clear E
  go_enter Tryz.func52, Tryz.ntmps52
  go_wp2_with fail
  refine (HSP.out _ hbe).mono ?_
  intro e w1 h1
  obtain ⟨bs, C, rfl, ho1, hb1⟩ := split_cut hs h1
  have hpos := C.pos
  have hlen := C.len
  have hp1 : (1 : Int) ≤ (bs.length : Int) := by omega
  have HST0 : Hid (Strs w1 (.slice (some ⟨w.heap.size + 1, 0, none⟩) bs.length bs.length) bs) := by
    have := SlT.of_own ho1
    unfold Hid Strs
    simpa using this
  have HSZ := Lib.hid C.size
  have HDR : Hid (P = ((bs.drop 1).map (·.data.toList)).map numL) := by unfold Hid; rw [hP, C.drop 1]
  have HO1 := Lib.hid (own_below HE.out hb1)
  have hbb := below_trans hbe hb1
  clear h1 ho1 hb1 C hpos hP
  by_cases hone : bs.length = 1
  · have hnil : bs.drop 1 = [] := by apply List.drop_of_length_le; omega
    have HN := Lib.hid hnil
    clear hnil
    go_wp2
    refine wp_loop_rounds 1 ?_
    rw [rounds_succ]
    go_wp2
    go_ret
    rw [HDR.out, HN.out]
    exact ⟨_, rfl, HO1.out, hbb⟩
  · go_wp2
    go_loopw [3, 5, 6, 7, 13] (fun u a b c i wr => ∃ (k : Nat), k + 1 ≤ bs.length ∧ i = .int .i64 k ∧ Hid (wr.ownsRow w.heap.size 2 1 u k ((((bs.drop 1).take k).map (fun x => numL x.data.toList)).map (Value.int .i64))) ∧ Hid (Strs wr (.slice (some ⟨w.heap.size + 1, 0, none⟩) bs.length bs.length) bs) ∧ Below w.heap.size w wr) (fun _ _ _ _ i _ => bs.length - (intOf i).toNat)
    case atStart => exact ⟨0, by omega, rfl, by simpa using HO1, HST0, hbb⟩
    case round =>
      obtain ⟨k, hk, rfl, HO, HSS, hb⟩ := hrel
      by_cases hlt : k + 1 < bs.length
      · have d1 := HSS.out.cells (k + 1) hlt
        have i1 := idx_of Tryz.underlying61 size1_stringR (ao := some ⟨w.heap.size + 1, 1, none⟩) (b := w.heap.size + 1) (o := 1) (n := bs.length - 1) (c := bs.length - 1) (fun _ => rfl) (show k < bs.length - 1 by omega) .i64
        rw [Nat.add_comm 1 k] at i1
        have hzk : (bs[k + 1]).size ≤ 2000 := by have := HSZ.out _ (List.getElem_mem hlt); omega
        have HST : Hid ((bs.drop 1).take (k + 1) = (bs.drop 1).take k ++ [bs[k + 1]]) := by
          unfold Hid
          rw [List.take_succ_eq_append_getElem (by rw [List.length_drop]; omega)]
          congr 2
          rw [List.getElem_drop]
          congr 1
          omega
        obtain ⟨x, hx⟩ : ∃ x, x = bs[k + 1] := ⟨_, rfl⟩
        rw [← hx] at d1 hzk HST
        have hbw := hb
        have HP := Lib.hid (HPA.out x wr hbw hzk)
        have hlow := hbw.size
        have hcd : (k : Int) < ((bs.length - 1 : Nat) : Int) := by omega
        clear hx
        go_wp2_with fail
        refine HP.out.mono ?_
        rintro e w2 ⟨err, rfl, hor, hb2⟩
        have HO2 := Lib.hid (own_below HO.out hb2)
        have hb3 := below_trans hb hb2
        have hlow2 := hb3.size
        clear hor
        go_wp2_with (at_builtin; refine wpList_push elem_intR rfl (.tmp 22) (.tmp 24) rfl w.heap.size rfl HO2.out _ rfl rfl (by unfold maxLen; omega) (by omega) hlow2 ?_; intro v' w4 hown' hgr hnn)
        have hb4 : Below w.heap.size w w4 := Below.grown hb3 hgr hlow2 (fun g hg => (own_block HO2.out hg).1)
        have HSS4 : Hid (Strs w4 (.slice (some ⟨w.heap.size + 1, 0, none⟩) bs.length bs.length) bs) := SlT.grown (SlT.below HSS.out hb2) HO2.out hgr (by decide)
        have HN2 := Lib.hid hown'
        clear hown' hgr
        go_wp2
        go_roundw
        case rel => exact ⟨k + 1, by omega, by go_num, by unfold Hid; rw [HST.out, List.map_append, List.map_append]; exact HN2.out, HSS4.out, hb4⟩
        case measure => simp [intOf]; omega
      · obtain rfl : k = bs.length - 1 := by omega
        have hcd : ¬ (((bs.length - 1 : Nat) : Int) < ((bs.length - 1 : Nat) : Int)) := by omega
        have HOO : Hid (wr.ownsRow w.heap.size 2 1 u3 (((bs.drop 1).map (·.data.toList)).map numL).length ((((bs.drop 1).map (·.data.toList)).map numL).map (Value.int .i64))) := by
          have := HO.out
          rw [List.take_of_length_le (by rw [List.length_drop]; omega)] at this
          unfold Hid
          rw [List.map_map]
          rw [List.length_map, List.length_drop]
          exact this
        go_wp2
        go_ret
        rw [HDR.out]
        exact ⟨_, rfl, HOO.out, hb⟩
end Go.Proofs.YtfdacodbiodiaaaGreatDoor
