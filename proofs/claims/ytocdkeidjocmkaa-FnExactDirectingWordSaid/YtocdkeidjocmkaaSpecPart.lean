/- l04Size, l04Ok, ValidPartial, of the reference. -/
import Derived.Test.YtocdkeidjocmkaaSpecOk
import Derived.Test.YtocdkeidjocmkaaValidPart
namespace Go.Proofs.Ytocdkeidjocmkaa
set_option linter.unusedVariables false
set_option linter.unusedSimpArgs false
open Go.ChangeShapes Go.WideShapes Go.ChangeAt Go.RowKit

theorem l04Size_any (n : Int) (k : Nat) (w : World) :
    Calls Try.prog 80 #[.int .i64 n, .int .i64 k] w fun e w' => e = .returned (.bool (inB n 1 10 && inB k 1 3)) ∧ w' = w := by
  have HC := Lib.hid (l00In_any n 1 10 w)
  have HC2 := Lib.hid (l00In_any k 1 3 w)
  cases hA : inB n 1 10
  · rw [hA] at HC
    rw [Bool.false_and]
    clear hA
    go_enter Try.func80, Try.ntmps80
    go_wp2_with fail
    refine HC.out.mono ?_
    rintro e w2 ⟨rfl, rfl⟩
    go_wp2
    go_ret
    exact ⟨rfl, rfl⟩
  · rw [hA] at HC
    rw [Bool.true_and]
    generalize inB k 1 3 = b at HC2
    clear hA
    go_enter Try.func80, Try.ntmps80
    go_wp2_with fail
    refine HC.out.mono ?_
    rintro e w2 ⟨rfl, rfl⟩
    go_wp2_with fail
    refine HC2.out.mono ?_
    rintro e w2 ⟨rfl, rfl⟩
    go_wp2
    go_ret
    exact ⟨rfl, rfl⟩

theorem rowsP_take (st : Int) (xss : List (List Int)) (k : Nat) (h : k < xss.length) : rowsP st (xss.take (k + 1)) = (rowsP st (xss.take k) && (decide (((xss.getD k []).length : Int) = st) && allIn (xss.getD k []) (-1) (st - 1))) := by
  unfold rowsP
  rw [List.take_succ_eq_append_getElem h, List.all_append]
  simp [List.getD_eq_getElem?_getD, h]
theorem rowsP_no {st : Int} {xss : List (List Int)} {k : Nat} (h : k < xss.length) (hb : (decide (((xss.getD k []).length : Int) = st) && allIn (xss.getD k []) (-1) (st - 1)) = false) : rowsP st xss = false := by
  unfold rowsP
  rw [List.all_eq_false]
  refine ⟨xss[k], List.getElem_mem h, ?_⟩
  simp only [List.getD_eq_getElem?_getD, List.getElem?_eq_getElem h, Option.getD_some] at hb
  rw [hb]
  simp

theorem l04Ok_any (b o : Nat) (st : Int) (v : Value) (xss : List (List Int)) (w : World) (d0 : w.cell? ⟨b, o, none⟩ = some (.int .i64 st)) (d1 : w.cell? ⟨b, o + 1, none⟩ = some v) (h1 : Rows2 w v xss) :
    Calls Try.prog 41 #[.pointer (some ⟨b, o, none⟩)] w (RetQ (.bool (validP st xss)) w) := by
  obtain ⟨ao1, p1, o1, c1, H1⟩ := h1.open
  have hv := H1.val
  subst hv
  have hm := H1.len
  clear h1
  have HC := Lib.hid (fun n => l04Size_any st xss.length (w.drewN n))
  have e0 : validP st xss = ((inB st 1 10 && inB xss.length 1 3) && rowsP st xss) := by unfold validP; rw [Bool.and_assoc]
  cases hA : (inB st 1 10 && inB xss.length 1 3)
  · rw [e0, hA, Bool.false_and]
    rw [hA] at HC
    clear hA e0
    go_enter Try.func41, Try.ntmps41
    go_wp2
    go_quiet ((go_at_call 80; exact Calls.quiet_of_same (HC.out _)))
    go_wp2
    go_ret
    exact ⟨rfl, (Qu.refl _).drewN _⟩
  · have hst := (Bool.and_eq_true _ _ ▸ hA : inB st 1 10 = true ∧ inB xss.length 1 3 = true)
    obtain ⟨hs1, hs2⟩ := inB_true.1 hst.1
    rw [e0, hA, Bool.true_and]
    rw [hA] at HC
    clear hA e0 hst
    go_enter Try.func41, Try.ntmps41
    go_wp2
    go_quiet ((go_at_call 80; exact Calls.quiet_of_same (HC.out _)))
    go_wp2
    go_loopw [3] (fun i wr => ∃ k : Nat, k ≤ xss.length ∧ i = .int .i64 k ∧ Hid (rowsP st (xss.take k) = true) ∧ Qu w wr) (fun i _ => xss.length - (intOf i).toNat)
    case atStart => exact ⟨0, Nat.zero_le _, rfl, rfl, (Qu.refl _).drewN _⟩
    case round =>
      obtain ⟨k, hk, rfl, hall, hq⟩ := hrel
      obtain ⟨wo, rfl⟩ : ∃ wo : World, wo = wr := ⟨_, rfl⟩
      replace d0 := hq.cell d0
      replace d1 := hq.cell d1
      by_cases hlt : k < xss.length
      · have i1 := idx_of Try.underlying22 size1_ints (c := c1) H1.adr hlt .i64
        obtain ⟨r1, d2, hr1⟩ := H1.cell k hlt
        replace d2 := hq.cell d2
        replace hr1 := hq.ints hr1
        obtain ⟨ao2, p2, o2, c2, H2⟩ := hr1.open
        have hv2 := H2.val
        subst hv2
        have hm2 := H2.len
        have HT := Lib.hid (rowsP_take st xss k hlt)
        have HNO := Lib.hid (fun h => rowsP_no (st := st) (k := k) hlt h)
        obtain ⟨zs, hzs⟩ : ∃ zs, zs = xss.getD k [] := ⟨_, rfl⟩
        rw [← hzs] at HT HNO d2 hr1 H2 hm2
        have HZ := Lib.hid hzs
        clear hzs
        by_cases hl : (zs.length : Int) = st
        · have hb : ((zs.length : Int) != st) = false := by simp [hl]
          have HL := Lib.hid (decide_eq_true hl)
          clear hl
          go_wp2
          go_quiet (fail)
          go_wp2
          go_loopw [4] (fun i wr => ∃ j : Nat, j ≤ zs.length ∧ i = .int .i64 j ∧ Hid (allIn (zs.take j) (-1) (st - 1) = true) ∧ Qu wo wr) (fun i _ => zs.length - (intOf i).toNat)
          case atStart => exact ⟨0, Nat.zero_le _, rfl, rfl, (Qu.refl _).drewN _⟩
          case round =>
            obtain ⟨j, hj, rfl, hin, hq2⟩ := hrel
            replace d0 := hq2.cell d0
            replace d1 := hq2.cell d1
            replace d2 := hq2.cell d2
            have hq3 := Lib.hid (hq.trans hq2)
            by_cases hlt2 : j < zs.length
            · have i2 := idx_of Try.underlying55 size1_int (c := c2) H2.adr hlt2 .i64
              obtain ⟨z, hz, d3⟩ := H2.at hlt2
              replace d3 := hq2.cell d3
              have HT2 := Lib.hid (allIn_take zs j (-1) (st - 1) hlt2)
              have HZ2 := Lib.hid hz
              have hwr := IntWalk.i64_in (st - 1) (by omega)
              cases hb2 : inB z (-1) (st - 1)
              · have HI := Lib.hid (fun n => l00In_any z (-1) (st - 1) (wr.drewN n))
                rw [hb2] at HI
                have HB2 := Lib.hid hb2
                clear hb2 hz
                go_wp2
                go_quiet ((go_at_call 81; exact Calls.quiet_of_same' (HI.out _)))
                clear hwr
                go_wp2
                go_ret
                exact ⟨ret_bool (HNO.out (by rw [allIn_no hlt2 (by rw [HZ2.out]; exact HB2.out), Bool.and_false])).symm, (hq3.out).drewN _⟩
              · have HI := Lib.hid (fun n => l00In_any z (-1) (st - 1) (wr.drewN n))
                rw [hb2] at HI
                have HB2 := Lib.hid hb2
                clear hb2 hz
                go_wp2
                go_quiet ((go_at_call 81; exact Calls.quiet_of_same' (HI.out _)))
                clear hwr
                go_wp2
                go_roundw
                case rel => exact ⟨j + 1, by omega, by go_num, by unfold Hid; rw [HT2.out, hin.out, HZ2.out, HB2.out]; rfl, hq2.drewN _⟩
                case measure => simp [intOf]; omega
            · have hin2 : allIn zs (-1) (st - 1) = true := by have := hin.out; rwa [List.take_of_length_le (by omega)] at this
              have HIN := Lib.hid hin2
              clear hin2
              go_wp2
              go_roundw
              case rel => exact ⟨k + 1, by omega, by go_num, by unfold Hid; rw [HT.out, hall.out, HL.out, HIN.out]; rfl, hq3.out⟩
              case measure => simp [intOf]; omega
        · have hb : ((zs.length : Int) != st) = true := by simp [hl]
          have HL := Lib.hid (decide_eq_false hl)
          clear hl
          go_wp2
          go_quiet (fail)
          go_wp2
          go_ret
          exact ⟨ret_bool (HNO.out (by rw [HL.out, Bool.false_and])).symm, hq.drewN _⟩
      · have hall2 : rowsP st xss = true := by have := hall.out; rwa [List.take_of_length_le (by omega)] at this
        have HA := Lib.hid hall2
        clear hall2
        go_wp2
        go_ret
        exact ⟨ret_bool HA.out.symm, hq⟩


end Go.Proofs.Ytocdkeidjocmkaa
