/- l04Choices, ValidChoice, of the reference. -/
import Derived.Test.YtocdkeidjocmkaaRises
import Derived.Test.YtocdkeidjocmkaaCube
import Derived.Test.YtocdkeidjocmkaaSpecPart
namespace Go.Proofs.Ytocdkeidjocmkaa
set_option linter.unusedVariables false
set_option linter.unusedSimpArgs false
open Go.ChangeShapes Go.WideShapes Go.ChangeAt Go.RowKit

/-- are all lists sets of states? -/
def setsB (st : Int) (zss : List (List Int)) : Bool := zss.all fun s => risesB s 0 (st - 1)
def rowsC (st : Int) (xsss : List (List (List Int))) : Bool := xsss.all fun r => decide ((r.length : Int) = st) && setsB st r
def validC (st : Int) (xsss : List (List (List Int))) : Bool := inB st 1 10 && (inB xsss.length 1 3 && rowsC st xsss)

theorem setsB_take (st : Int) (xss : List (List Int)) (k : Nat) (h : k < xss.length) : setsB st (xss.take (k + 1)) = (setsB st (xss.take k) && risesB (xss.getD k []) 0 (st - 1)) := by
  unfold setsB
  rw [List.take_succ_eq_append_getElem h, List.all_append]
  simp [List.getD_eq_getElem?_getD, h]
theorem setsB_no {st : Int} {xss : List (List Int)} {k : Nat} (h : k < xss.length) (hb : risesB (xss.getD k []) 0 (st - 1) = false) : setsB st xss = false := by
  unfold setsB
  rw [List.all_eq_false]
  refine ⟨xss[k], List.getElem_mem h, ?_⟩
  simp only [List.getD_eq_getElem?_getD, List.getElem?_eq_getElem h, Option.getD_some] at hb
  rw [hb]
  simp
theorem rowsC_take (st : Int) (xss : List (List (List Int))) (k : Nat) (h : k < xss.length) : rowsC st (xss.take (k + 1)) = (rowsC st (xss.take k) && (decide (((xss.getD k []).length : Int) = st) && setsB st (xss.getD k []))) := by
  unfold rowsC
  rw [List.take_succ_eq_append_getElem h, List.all_append]
  simp [List.getD_eq_getElem?_getD, h]
theorem rowsC_no {st : Int} {xss : List (List (List Int))} {k : Nat} (h : k < xss.length) (hb : (decide (((xss.getD k []).length : Int) = st) && setsB st (xss.getD k [])) = false) : rowsC st xss = false := by
  unfold rowsC
  rw [List.all_eq_false]
  refine ⟨xss[k], List.getElem_mem h, ?_⟩
  simp only [List.getD_eq_getElem?_getD, List.getElem?_eq_getElem h, Option.getD_some] at hb
  rw [hb]
  simp

set_option maxRecDepth 100000 in
theorem l04Choices_any (b o : Nat) (st : Int) (v : Value) (xss : List (List (List Int))) (w : World) (d0 : w.cell? ⟨b, o, none⟩ = some (.int .i64 st)) (d1 : w.cell? ⟨b, o + 1, none⟩ = some v) (h1 : Rows3 w v xss) :
    Calls Try.prog 67 #[.pointer (some ⟨b, o, none⟩)] w (RetQ (.bool (validC st xss)) w) := by
  obtain ⟨ao1, p1, o1, c1, H1⟩ := h1.open
  have hv := H1.val
  subst hv
  have hm := H1.len
  clear h1
  have HC := Lib.hid (fun n => l04Size_any st xss.length (w.drewN n))
  have e0 : validC st xss = ((inB st 1 10 && inB xss.length 1 3) && rowsC st xss) := by unfold validC; rw [Bool.and_assoc]
  cases hA : (inB st 1 10 && inB xss.length 1 3)
  · rw [e0, hA, Bool.false_and]
    rw [hA] at HC
    clear hA e0
    go_enter Try.func67, Try.ntmps67
    go_wp2
    go_quiet ((go_at_call 80; exact Calls.quiet_of_same (HC.out _)))
    go_wp2
    go_ret
    exact ⟨rfl, (Qu.refl _).drewN _⟩
  · have hst := (Bool.and_eq_true _ _ ▸ hA : inB st 1 10 = true ∧ inB xss.length 1 3 = true)
    obtain ⟨hs1, hs2⟩ := inB_true.1 hst.1
    rw [e0, hA, Bool.true_and]
    rw [hA] at HC
    clear hA e0 hst
    go_enter Try.func67, Try.ntmps67
    go_wp2
    go_quiet ((go_at_call 80; exact Calls.quiet_of_same (HC.out _)))
    go_wp2
    go_loopw [3] (fun i wr => ∃ k : Nat, k ≤ xss.length ∧ i = .int .i64 k ∧ Hid (rowsC st (xss.take k) = true) ∧ Qu w wr) (fun i _ => xss.length - (intOf i).toNat)
    case atStart => exact ⟨0, Nat.zero_le _, rfl, rfl, (Qu.refl _).drewN _⟩
    case round =>
      obtain ⟨k, hk, rfl, hall, hq⟩ := hrel
      obtain ⟨wo, rfl⟩ : ∃ wo : World, wo = wr := ⟨_, rfl⟩
      replace d0 := hq.cell d0
      replace d1 := hq.cell d1
      by_cases hlt : k < xss.length
      · have i1 := idx_of Try.underlying26 size1_rows (c := c1) H1.adr hlt .i64
        obtain ⟨r1, d2, hr1⟩ := H1.cell k hlt
        replace d2 := hq.cell d2
        replace hr1 := hq.rows hr1
        obtain ⟨ao2, p2, o2, c2, H2⟩ := hr1.open
        have hv2 := H2.val
        subst hv2
        have hm2 := H2.len
        have HT := Lib.hid (rowsC_take st xss k hlt)
        have HNO := Lib.hid (fun h => rowsC_no (st := st) (k := k) hlt h)
        obtain ⟨zs, hzs⟩ : ∃ zs, zs = xss.getD k [] := ⟨_, rfl⟩
        rw [← hzs] at HT HNO d2 hr1 H2 hm2
        have HZ := Lib.hid hzs
        clear hzs
        by_cases hl : (zs.length : Int) = st
        · have hb : ((zs.length : Int) != st) = false := by simp [hl]
          have HL := Lib.hid (decide_eq_true hl)
          clear hl
          go_wp2
          go_quiet (fail)
          go_wp2
          go_loopw [4] (fun i wr => ∃ j : Nat, j ≤ zs.length ∧ i = .int .i64 j ∧ Hid (setsB st (zs.take j) = true) ∧ Qu wo wr) (fun i _ => zs.length - (intOf i).toNat)
          case atStart => exact ⟨0, Nat.zero_le _, rfl, rfl, (Qu.refl _).drewN _⟩
          case round =>
            obtain ⟨j, hj, rfl, hin, hq2⟩ := hrel
            replace d0 := hq2.cell d0
            replace d1 := hq2.cell d1
            replace d2 := hq2.cell d2
            have hq3 := Lib.hid (hq.trans hq2)
            by_cases hlt2 : j < zs.length
            · have i2 := idx_of Try.underlying22 size1_ints (c := c2) H2.adr hlt2 .i64
              obtain ⟨r3, d3, hr3⟩ := H2.cell j hlt2
              replace d3 := hq2.cell d3
              replace hr3 := hq2.ints hr3
              have HT2 := Lib.hid (setsB_take st zs j hlt2)
              have hwr := IntWalk.i64_in (st - 1) (by omega)
              have HI0 := fun n => l00Rises_any r3 (zs.getD j []) 0 (st - 1) (wr.drewN n) (hr3.drewN n)
              cases hb2 : risesB (zs.getD j []) 0 (st - 1)
              · rw [hb2] at HI0
                have HI := Lib.hid HI0
                have HN2 := Lib.hid (setsB_no hlt2 hb2)
                clear hb2 HI0 hr3
                go_wp2
                go_quiet ((go_at_call 102; exact Calls.quiet_of (HI.out _)))
                clear hwr
                go_wp2
                go_ret
                exact ⟨ret_bool (HNO.out (by rw [HN2.out, Bool.and_false])).symm, (hq3.out).drewN _⟩
              · rw [hb2] at HI0
                have HI := Lib.hid HI0
                have HB2 := Lib.hid hb2
                clear hb2 HI0 hr3
                go_wp2
                go_quiet ((go_at_call 102; exact Calls.quiet_of (HI.out _)))
                clear hwr
                go_wp2
                go_roundw
                case rel => exact ⟨j + 1, by omega, by go_num, by unfold Hid; rw [HT2.out, hin.out, HB2.out]; rfl, hq2.drewN _⟩
                case measure => simp [intOf]; omega
            · have hin2 : setsB st zs = true := by have := hin.out; rwa [List.take_of_length_le (by omega)] at this
              have HIN := Lib.hid hin2
              clear hin2
              go_wp2
              go_roundw
              case rel => exact ⟨k + 1, by omega, by go_num, by unfold Hid; rw [HT.out, hall.out, HL.out, HIN.out]; rfl, hq3.out⟩
              case measure => simp [intOf]; omega
        · have hb : ((zs.length : Int) != st) = true := by simp [hl]
          have HL := Lib.hid (decide_eq_false hl)
          clear hl
          go_wp2
          go_quiet (fail)
          go_wp2
          go_ret
          exact ⟨ret_bool (HNO.out (by rw [HL.out, Bool.false_and])).symm, hq.drewN _⟩
      · have hall2 : rowsC st xss = true := by have := hall.out; rwa [List.take_of_length_le (by omega)] at this
        have HA := Lib.hid hall2
        clear hall2
        go_wp2
        go_ret
        exact ⟨ret_bool HA.out.symm, hq⟩


end Go.Proofs.Ytocdkeidjocmkaa
