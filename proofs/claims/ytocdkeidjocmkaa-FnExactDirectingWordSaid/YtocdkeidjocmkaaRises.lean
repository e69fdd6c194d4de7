/- isSet of the program, l00Rises of the reference: is a list strictly rising within bounds? One contract each. -/
import Derived.Test.YtocdkeidjocmkaaIn
import Derived.Test.YtocdkeidjocmkaaHelp1
namespace Go.Proofs.Ytocdkeidjocmkaa
set_option linter.unusedVariables false
set_option linter.unusedSimpArgs false
open Go.ChangeShapes Go.WideShapes Go.ChangeAt Go.RowKit

theorem idx_at' {P : Program} {t e : TypeId} (ht : P.underlying t = some (.slice e)) (hs : ∀ w, (sizeOf e).run P w = .ok 1 w) {ao : Option Addr} {b o n c : Nat} (ha : 0 < n → ao = some ⟨b, o, none⟩) {k : Nat} (hk : k < n) (kd : IntKind) (x : Int) (hx : x = (k : Int)) :
    ∀ w, (Instr.indexAt t (.slice ao n c) (.int kd x)).run P w = .ok (.pointer (some ⟨b, o + k, none⟩)) w := by
  subst hx; exact idx_of ht hs ha hk kd

/-- is the k-th number within the bounds and above the one before? -/
def riseAt (zs : List Int) (lo hi : Int) (k : Nat) : Bool := inB (zs.getD k 0) lo hi && (k == 0 || decide (zs.getD (k - 1) 0 < zs.getD k 0))
def risesB (zs : List Int) (lo hi : Int) : Bool := (List.range zs.length).all (riseAt zs lo hi)
theorem risesB_yes {zs : List Int} {lo hi : Int} (h : ∀ j, j < zs.length → riseAt zs lo hi j = true) : risesB zs lo hi = true := by
  unfold risesB; rw [List.all_eq_true]; intro j hj; exact h j (by simpa using hj)
theorem risesB_no {zs : List Int} {lo hi : Int} {k : Nat} (hk : k < zs.length) (h : riseAt zs lo hi k = false) : risesB zs lo hi = false := by
  unfold risesB; rw [List.all_eq_false]; exact ⟨k, by simpa using hk, by simp [h]⟩

theorem isSet_any (v : Value) (zs : List Int) (st : Int) (w : World) (h1 : Ints w v zs) (hst : 1 ≤ st ∧ st ≤ 10) :
    Calls Try.prog 107 #[v, .int .i64 st] w fun e w' => e = .returned (.bool (risesB zs 0 (st - 1))) ∧ w' = w := by
  obtain ⟨ao1, p1, o1, c1, H1⟩ := h1.open
  obtain rfl := H1.val
  have hm := H1.len
  obtain ⟨hs1, hs2⟩ := hst
  clear h1
  go_enter Try.func107, Try.ntmps107
  go_wp2
  go_loop [5, 6, 9] (fun _ _ i => ∃ k : Nat, k ≤ zs.length ∧ i = .int .i64 k ∧ Hid (∀ j, j < k → riseAt zs 0 (st - 1) j = true)) (fun _ _ i => zs.length - (intOf i).toNat)
  case atStart => exact ⟨0, Nat.zero_le _, rfl, fun j hj => absurd hj (by omega)⟩
  case round =>
    obtain ⟨k, hk, rfl, hpre⟩ := hrel
    by_cases hlt : k < zs.length
    · have i1 := idx_of Try.underlying55 size1_int (c := c1) H1.adr hlt .i64
      obtain ⟨z, hz, d1⟩ := H1.at hlt
      have HZ := Lib.hid hz
      have hw0 := within_any z 0 (st - 1) w
      have hwr := IntWalk.i64_in (st - 1) (by omega)
      cases hb : inB z 0 (st - 1)
      · rw [hb] at hw0
        have HW := Lib.hid hw0
        have hno : riseAt zs 0 (st - 1) k = false := by unfold riseAt; rw [hz, hb]; rfl
        have HN := Lib.hid hno
        clear hw0 hb hz hno
        go_wp2_with fail
        refine HW.out.mono ?_
        rintro e w2 ⟨rfl, rfl⟩
        clear hwr
        go_wp2
        go_ret
        exact ⟨ret_bool (risesB_no hlt HN.out).symm, rfl⟩
      · rw [hb] at hw0
        have HW := Lib.hid hw0
        have HB := Lib.hid hb
        clear hw0 hb hz
        rcases Nat.eq_zero_or_pos k with hk0 | hk0
        · subst hk0
          have hS : riseAt zs 0 (st - 1) 0 = true := by unfold riseAt; rw [HZ.out, HB.out]; rfl
          have HS := Lib.hid hS
          have i4 := idx_at' Try.underlying55 size1_int (c := c1) H1.adr hlt .i64 0 rfl
          rw [Nat.add_zero] at d1 i4
          clear hS i1
          rw [show Value.int IntKind.i64 ((0 : Nat) : Int) = .int .i64 0 from rfl]
          go_wp2_with fail
          refine HW.out.mono ?_
          rintro e w2 ⟨rfl, rfl⟩
          clear hwr
          go_wp2
          go_round
          case rel => exact ⟨0 + 1, by omega, by go_num, fun j hj => by obtain rfl : j = 0 := by omega
                                                                        exact HS.out⟩
          case measure => simp [intOf]; omega
        · have i3 := idx_at' Try.underlying55 size1_int (c := c1) H1.adr (k := k - 1) (by omega) .i64 ((k : Int) - 1) (by omega)
          obtain ⟨y, hy, d4⟩ := H1.at (k := k - 1) (by omega)
          have HY := Lib.hid hy
          have hgt : decide ((0 : Int) < (k : Int)) = true := by simp; omega
          have hwj := IntWalk.i64_in ((k : Int) - 1) (by omega)
          clear hy
          by_cases hyz : y < z
          · have hS : riseAt zs 0 (st - 1) k = true := by unfold riseAt; rw [HZ.out, HB.out, HY.out]; simp [hyz]
            have HS := Lib.hid hS
            have hd : decide (z ≤ y) = false := by simp; omega
            clear hS hyz
            go_wp2_with fail
            refine HW.out.mono ?_
            rintro e w2 ⟨rfl, rfl⟩
            clear hwr
            go_wp2
            clear hwj
            go_round
            case rel => exact ⟨k + 1, by omega, by go_num, fun j hj => by
              rcases Nat.lt_or_ge j k with h | h
              · exact hpre.out j h
              · obtain rfl : j = k := by omega
                exact HS.out⟩
            case measure => simp [intOf]; omega
          · have hno : riseAt zs 0 (st - 1) k = false := by
              unfold riseAt; rw [HZ.out, HB.out, HY.out]
              have : (k == 0) = false := by simp; omega
              rw [this]; simp; omega
            have HN := Lib.hid hno
            have hd : decide (z ≤ y) = true := by simp; omega
            clear hno hyz
            go_wp2_with fail
            refine HW.out.mono ?_
            rintro e w2 ⟨rfl, rfl⟩
            clear hwr
            go_wp2
            go_ret
            exact ⟨ret_bool (risesB_no hlt HN.out).symm, rfl⟩
    · go_wp2
      go_ret
      exact ⟨ret_bool (risesB_yes fun j hj => hpre.out j (by omega)).symm, rfl⟩

theorem l00Rises_any (v : Value) (zs : List Int) (lo hi : Int) (w : World) (h1 : Ints w v zs) :
    Calls Try.prog 102 #[v, .int .i64 lo, .int .i64 hi] w (RetQ (.bool (risesB zs lo hi)) w) := by
  obtain ⟨ao1, p1, o1, c1, H1⟩ := h1.open
  obtain rfl := H1.val
  have hm := H1.len
  clear h1
  go_enter Try.func102, Try.ntmps102
  go_wp2
  go_loopw [7] (fun i wr => ∃ k : Nat, k ≤ zs.length ∧ i = .int .i64 k ∧ Hid (∀ j, j < k → riseAt zs lo hi j = true) ∧ Qu w wr) (fun i _ => zs.length - (intOf i).toNat)
  case atStart => exact ⟨0, Nat.zero_le _, rfl, fun j hj => absurd hj (by omega), Qu.refl _⟩
  case round =>
    obtain ⟨k, hk, rfl, hpre, hq⟩ := hrel
    by_cases hlt : k < zs.length
    · have i1 := idx_of Try.underlying55 size1_int (c := c1) H1.adr hlt .i64
      obtain ⟨z, hz, d1⟩ := H1.at hlt
      replace d1 := hq.cell d1
      have HZ := Lib.hid hz
      have hw0 := fun n => l00In_any z lo hi (wr.drewN n)
      cases hb : inB z lo hi
      · rw [hb] at hw0
        have HW := Lib.hid hw0
        have hno : riseAt zs lo hi k = false := by unfold riseAt; rw [hz, hb]; rfl
        have HN := Lib.hid hno
        clear hw0 hb hz hno
        go_wp2
        go_quiet ((go_at_call 81; exact Calls.quiet_of_same' (HW.out _)))
        go_wp2
        go_ret
        exact ⟨ret_bool (risesB_no hlt HN.out).symm, hq.drewN _⟩
      · rw [hb] at hw0
        have HW := Lib.hid hw0
        have HB := Lib.hid hb
        clear hw0 hb hz
        rcases Nat.eq_zero_or_pos k with hk0 | hk0
        · subst hk0
          have hS : riseAt zs lo hi 0 = true := by unfold riseAt; rw [HZ.out, HB.out]; rfl
          have HS := Lib.hid hS
          have i4 := idx_at' Try.underlying55 size1_int (c := c1) H1.adr hlt .i64 0 rfl
          rw [Nat.add_zero] at d1 i4
          clear hS i1
          rw [show Value.int IntKind.i64 ((0 : Nat) : Int) = .int .i64 0 from rfl]
          go_wp2
          go_quiet ((go_at_call 81; exact Calls.quiet_of_same' (HW.out _)))
          go_wp2
          go_roundw
          case rel => exact ⟨0 + 1, by omega, by go_num, fun j hj => by obtain rfl : j = 0 := by omega
                                                                        exact HS.out, hq.drewN _⟩
          case measure => simp [intOf]; omega
        · have i3 := idx_at' Try.underlying55 size1_int (c := c1) H1.adr (k := k - 1) (by omega) .i64 ((k : Int) - 1) (by omega)
          obtain ⟨y, hy, d4⟩ := H1.at (k := k - 1) (by omega)
          replace d4 := hq.cell d4
          have HY := Lib.hid hy
          have hgt : decide ((0 : Int) < (k : Int)) = true := by simp; omega
          have hwj := IntWalk.i64_in ((k : Int) - 1) (by omega)
          clear hy
          by_cases hyz : y < z
          · have hS : riseAt zs lo hi k = true := by unfold riseAt; rw [HZ.out, HB.out, HY.out]; simp [hyz]
            have HS := Lib.hid hS
            have hd : decide (z ≤ y) = false := by simp; omega
            clear hS hyz
            go_wp2
            go_quiet ((go_at_call 81; exact Calls.quiet_of_same' (HW.out _)))
            clear hwj
            go_wp2
            go_roundw
            case rel => exact ⟨k + 1, by omega, by go_num, fun j hj => by
              rcases Nat.lt_or_ge j k with h | h
              · exact hpre.out j h
              · obtain rfl : j = k := by omega
                exact HS.out, hq.drewN _⟩
            case measure => simp [intOf]; omega
          · have hno : riseAt zs lo hi k = false := by
              unfold riseAt; rw [HZ.out, HB.out, HY.out]
              have : (k == 0) = false := by simp; omega
              rw [this]; simp; omega
            have HN := Lib.hid hno
            have hd : decide (z ≤ y) = true := by simp; omega
            clear hno hyz
            go_wp2
            go_quiet ((go_at_call 81; exact Calls.quiet_of_same' (HW.out _)))
            clear hwj
            go_wp2
            go_ret
            exact ⟨ret_bool (risesB_no hlt HN.out).symm, hq.drewN _⟩
    · go_wp2
      go_ret
      exact ⟨ret_bool (risesB_yes fun j hj => hpre.out j (by omega)).symm, hq⟩

end Go.Proofs.Ytocdkeidjocmkaa
