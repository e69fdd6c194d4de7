/- l01Map, l01Ok, ValidAutomaton, of the reference. -/
import Derived.Test.YtocdkeidjocmkaaValid
namespace Go.Proofs.Ytocdkeidjocmkaa
set_option linter.unusedVariables false
set_option linter.unusedSimpArgs false
open Go.ChangeShapes Go.WideShapes Go.ChangeAt Go.RowKit

theorem allIn_take (zs : List Int) (k : Nat) (lo hi : Int) (h : k < zs.length) : allIn (zs.take (k + 1)) lo hi = (allIn (zs.take k) lo hi && inB (zs.getD k 0) lo hi) := by
  unfold allIn
  rw [List.take_succ_eq_append_getElem h, List.all_append]
  simp [List.getD_eq_getElem?_getD, h]
theorem allIn_no {zs : List Int} {k : Nat} {lo hi : Int} (h : k < zs.length) (hb : inB (zs.getD k 0) lo hi = false) : allIn zs lo hi = false := by
  unfold allIn
  rw [List.all_eq_false]
  exact ⟨zs[k], List.getElem_mem h, by simpa [List.getD_eq_getElem?_getD, h] using hb⟩

def mapB (zs : List Int) (st : Int) : Bool := allIn zs 0 (st - 1) && decide ((zs.length : Int) = st)

theorem l01Map_any (v : Value) (zs : List Int) (st : Int) (w : World) (h1 : Ints w v zs) (hst : -4611686018427387904 ≤ st ∧ st ≤ 4611686018427387904) :
    Calls Try.prog 89 #[v, .int .i64 st] w fun e w' => e = .returned (.bool (mapB zs st)) ∧ w' = w := by
  obtain ⟨ao1, p1, o1, c1, H1⟩ := h1.open
  have hv := H1.val
  subst hv
  have hm := H1.len
  obtain ⟨hs1, hs2⟩ := hst
  clear h1
  go_enter Try.func89, Try.ntmps89
  go_wp2
  go_loop [5] (fun i => ∃ k : Nat, k ≤ zs.length ∧ i = .int .i64 k ∧ Hid (allIn (zs.take k) 0 (st - 1) = true)) (fun i => zs.length - (intOf i).toNat)
  case atStart => exact ⟨0, Nat.zero_le _, rfl, rfl⟩
  case round =>
    obtain ⟨k, hk, rfl, hall⟩ := hrel
    by_cases hlt : k < zs.length
    · have i1 := idx_of Try.underlying55 size1_int (c := c1) H1.adr hlt .i64
      obtain ⟨z, hz, d1⟩ := H1.at hlt
      have HC := Lib.hid (l00In_any z 0 (st - 1) w)
      have HT := Lib.hid (allIn_take zs k 0 (st - 1) hlt)
      have HZ := Lib.hid hz
      cases hb : inB z 0 (st - 1)
      · rw [hb] at HC
        have HB := Lib.hid hb
        clear hb hz
        go_wp2_with fail
        refine HC.out.mono ?_
        rintro e w2 ⟨rfl, rfl⟩
        go_wp2
        go_ret
        refine ⟨ret_bool ?_, rfl⟩
        unfold mapB
        rw [allIn_no hlt (by rw [HZ.out]; exact HB.out)]
        rfl
      · rw [hb] at HC
        have HB := Lib.hid hb
        clear hb hz
        go_wp2_with fail
        refine HC.out.mono ?_
        rintro e w2 ⟨rfl, rfl⟩
        go_wp2
        go_round
        case rel => exact ⟨k + 1, by omega, by go_num, by unfold Hid; rw [HT.out, hall.out, HZ.out, HB.out]; rfl⟩
        case measure => simp [intOf]; omega
    · have hall2 : allIn zs 0 (st - 1) = true := by have := hall.out; rwa [List.take_of_length_le (by omega)] at this
      have e : mapB zs st = ((zs.length : Int) == st) := by unfold mapB; rw [hall2, Bool.true_and]; rfl
      have HE := Lib.hid e
      clear hall2 e hall
      go_wp2
      go_ret
      exact ⟨ret_bool HE.out.symm, rfl⟩

theorem rowsB_take (st : Int) (xss : List (List Int)) (k : Nat) (h : k < xss.length) : rowsB st (xss.take (k + 1)) = (rowsB st (xss.take k) && mapB (xss.getD k []) st) := by
  unfold rowsB
  rw [List.take_succ_eq_append_getElem h, List.all_append]
  simp [List.getD_eq_getElem?_getD, h, mapB, Bool.and_comm]
theorem rowsB_no {st : Int} {xss : List (List Int)} {k : Nat} (h : k < xss.length) (hb : mapB (xss.getD k []) st = false) : rowsB st xss = false := by
  unfold rowsB
  rw [List.all_eq_false]
  refine ⟨xss[k], List.getElem_mem h, ?_⟩
  simp only [List.getD_eq_getElem?_getD, List.getElem?_eq_getElem h, Option.getD_some, mapB] at hb
  rw [Bool.and_comm, hb]
  simp

theorem l01Ok_any (b o : Nat) (st : Int) (v : Value) (xss : List (List Int)) (w : World) (d0 : w.cell? ⟨b, o, none⟩ = some (.int .i64 st)) (d1 : w.cell? ⟨b, o + 1, none⟩ = some v) (h1 : Rows2 w v xss) :
    Calls Try.prog 47 #[.pointer (some ⟨b, o, none⟩)] w (RetQ (.bool (validB st xss)) w) := by
  obtain ⟨ao1, p1, o1, c1, H1⟩ := h1.open
  have hv := H1.val
  subst hv
  have hm := H1.len
  clear h1
  have HC := Lib.hid (fun W => l00In_any st 1 10 W)
  cases hA : inB st 1 10
  · rw [show validB st xss = false by simp [validB, hA]]
    rw [hA] at HC
    clear hA
    go_enter Try.func47, Try.ntmps47
    go_wp2_with fail
    refine (HC.out _).mono ?_
    rintro e w2 ⟨rfl, rfl⟩
    go_wp2
    go_ret
    exact ⟨rfl, Qu.refl _⟩
  · have hst := inB_true.1 hA
    obtain ⟨hs1, hs2⟩ := hst
    rw [hA] at HC
    have HC2 := Lib.hid (fun W => l00In_any xss.length 1 3 W)
    cases hB : inB xss.length 1 3
    · rw [show validB st xss = false by simp [validB, hA, hB]]
      rw [hB] at HC2
      clear hA hB
      go_enter Try.func47, Try.ntmps47
      go_wp2_with fail
      refine (HC.out _).mono ?_
      rintro e w2 ⟨rfl, rfl⟩
      go_wp2_with fail
      refine (HC2.out _).mono ?_
      rintro e w2 ⟨rfl, rfl⟩
      go_wp2
      go_ret
      exact ⟨rfl, Qu.refl _⟩
    · rw [show validB st xss = rowsB st xss by simp [validB, hA, hB]]
      rw [hB] at HC2
      clear hA hB
      go_enter Try.func47, Try.ntmps47
      go_wp2_with fail
      refine (HC.out _).mono ?_
      rintro e w2 ⟨rfl, rfl⟩
      go_wp2_with fail
      refine (HC2.out _).mono ?_
      rintro e w2 ⟨rfl, rfl⟩
      go_wp2
      go_loopw [3] (fun i wr => ∃ k : Nat, k ≤ xss.length ∧ i = .int .i64 k ∧ Hid (rowsB st (xss.take k) = true) ∧ Qu w wr) (fun i _ => xss.length - (intOf i).toNat)
      case atStart => exact ⟨0, Nat.zero_le _, rfl, rfl, Qu.refl _⟩
      case round =>
        obtain ⟨k, hk, rfl, hall, hq⟩ := hrel
        replace d0 := hq.cell d0
        replace d1 := hq.cell d1
        by_cases hlt : k < xss.length
        · have i1 := idx_of Try.underlying22 size1_ints (c := c1) H1.adr hlt .i64
          obtain ⟨r1, d2, hr1⟩ := H1.cell k hlt
          replace d2 := hq.cell d2
          replace hr1 := hq.ints hr1
          have HT := Lib.hid (rowsB_take st xss k hlt)
          have HM := Lib.hid (fun n => l01Map_any r1 (xss.getD k []) st (wr.drewN n) (hr1.drewN n) (by omega))
          cases hb : mapB (xss.getD k []) st
          · rw [hb] at HM
            have HB := Lib.hid hb
            clear hb hr1
            go_wp2
            go_quiet ((go_at_call 89; exact Calls.quiet_of_same (HM.out _)))
            go_wp2
            go_ret
            exact ⟨ret_bool (rowsB_no hlt HB.out).symm, hq.drewN _⟩
          · rw [hb] at HM
            have HB := Lib.hid hb
            clear hb hr1
            go_wp2
            go_quiet ((go_at_call 89; exact Calls.quiet_of_same (HM.out _)))
            go_wp2
            go_roundw
            case rel => exact ⟨k + 1, by omega, by go_num, by unfold Hid; rw [HT.out, hall.out, HB.out]; rfl, hq.drewN _⟩
            case measure => simp [intOf]; omega
        · have hall2 : rowsB st xss = true := by have := hall.out; rwa [List.take_of_length_le (by omega)] at this
          have HA := Lib.hid hall2
          clear hall2
          go_wp2
          go_ret
          exact ⟨ret_bool HA.out.symm, hq⟩


end Go.Proofs.Ytocdkeidjocmkaa
