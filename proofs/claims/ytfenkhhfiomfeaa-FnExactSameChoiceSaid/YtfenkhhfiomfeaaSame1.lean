/- l00Same, l06SameRows, slices.Equal, sameTable: are two lists, two lists of lists equal? One contract each. -/
import Derived.Test.YtfenkhhfiomfeaaHelp1
import Derived.Test.YtfenkhhfiomfeaaOwn
namespace Go.Proofs.Ytfenkhhfiomfeaa
set_option linter.unusedVariables false
set_option linter.unusedSimpArgs false
open Go.ChangeShapes Go.WideShapes Go.ChangeAt Go.RowKit


theorem l00Same_any (v1 v2 : Value) (xs ys : List Int) (w : World) (h1 : Ints w v1 xs) (h2 : Ints w v2 ys) :
    Calls Try.prog 109 #[v1, v2] w (RetQ (.bool (decide (xs = ys))) w) := by
  obtain ⟨ao1, p1, o1, c1, H1⟩ := h1.open
  obtain ⟨ao2, p2, o2, c2, H2⟩ := h2.open
  obtain rfl := H1.val
  obtain rfl := H2.val
  clear h1 h2
  have hm := H1.len
  by_cases hl : ys.length = xs.length
  · have A2 := H2.adr
    rw [hl] at A2 ⊢
    have HL := Lib.hid hl
    clear hl
    go_enter Try.func109, Try.ntmps109
    go_wp2
    go_loopw [5] (fun i wr => ∃ k : Nat, k ≤ xs.length ∧ i = .int .i64 k ∧ Hid (∀ j, j < k → xs.getD j 0 = ys.getD j 0) ∧ ∃ n, wr = w.drewN n) (fun i _ => xs.length - (intOf i).toNat)
    case atStart => exact ⟨0, Nat.zero_le _, rfl, fun j hj => absurd hj (by omega), 0, rfl⟩
    case round =>
      obtain ⟨k, hk, rfl, hpre, n, rfl⟩ := hrel
      by_cases hlt : k < xs.length
      · have i1 := idx_of Try.underlying79 size1_int (c := c1) H1.adr hlt .i64
        have i2 := idx_of Try.underlying79 size1_int (c := c2) A2 hlt .i64
        obtain ⟨z1, hz1, d1⟩ := H1.at hlt
        obtain ⟨z2, hz2, d2⟩ := H2.at (by rw [HL.out]; exact hlt)
        have HZ1 := Lib.hid hz1
        have HZ2 := Lib.hid hz2
        clear hz1 hz2 A2
        by_cases hz : z1 = z2
        · have hb : (z1 != z2) = false := by simp [hz]
          have HZ := Lib.hid hz
          clear hz
          go_wp2
          go_quiet (fail)
          go_wp2
          go_roundw
          case rel => exact ⟨k + 1, by omega, by go_num, fun j hj => by
            rcases Nat.lt_or_ge j k with h | h
            · exact hpre.out j h
            · obtain rfl : j = k := by omega
              rw [HZ1.out, HZ2.out, HZ.out], _, rfl⟩
          case measure => simp [intOf]; omega
        · have hb : (z1 != z2) = true := by simp [hz]
          have HZ := Lib.hid hz
          clear hz
          go_wp2
          go_quiet (fail)
          go_wp2
          go_ret
          exact ⟨ret_bool (decide_eq_false fun h => HZ.out (by rw [← HZ1.out, ← HZ2.out, h])).symm, n + nq, by simp⟩
      · go_wp2
        go_ret
        exact ⟨ret_bool (decide_eq_true (list_ext HL.out.symm fun j hj => hpre.out j (by omega))).symm, _, rfl⟩
  · have hb : ((xs.length : Int) != ys.length) = true := by simp; omega
    have HL := Lib.hid hl
    clear hl
    go_enter Try.func109, Try.ntmps109
    go_wp2
    go_ret
    exact ⟨ret_bool (decide_eq_false fun h => HL.out (by rw [h])).symm, 0, rfl⟩

theorem sameRows_any (v1 v2 : Value) (xs ys : List (List Int)) (w : World) (h1 : Rows2 w v1 xs) (h2 : Rows2 w v2 ys) :
    Calls Try.prog 65 #[v1, v2] w (RetQ (.bool (decide (xs = ys))) w) := by
  obtain ⟨ao1, p1, o1, c1, H1⟩ := h1.open
  obtain ⟨ao2, p2, o2, c2, H2⟩ := h2.open
  obtain rfl := H1.val
  obtain rfl := H2.val
  clear h1 h2
  have hm := H1.len
  by_cases hl : ys.length = xs.length
  · have A2 := H2.adr
    rw [hl] at A2 ⊢
    have HL := Lib.hid hl
    clear hl
    go_enter Try.func65, Try.ntmps65
    go_wp2
    go_loopw [5] (fun i wr => ∃ k : Nat, k ≤ xs.length ∧ i = .int .i64 k ∧ Hid (∀ j, j < k → xs.getD j [] = ys.getD j []) ∧ Qu w wr) (fun i _ => xs.length - (intOf i).toNat)
    case atStart => exact ⟨0, Nat.zero_le _, rfl, fun j hj => absurd hj (by omega), Qu.refl _⟩
    case round =>
      obtain ⟨k, hk, rfl, hpre, hq⟩ := hrel
      by_cases hlt : k < xs.length
      · have i1 := idx_of Try.underlying22 size1_ints (c := c1) H1.adr hlt .i64
        have i2 := idx_of Try.underlying22 size1_ints (c := c2) A2 hlt .i64
        obtain ⟨r1, d1, hr1⟩ := H1.cell k hlt
        obtain ⟨r2, d2, hr2⟩ := H2.cell k (by rw [HL.out]; exact hlt)
        replace d1 := hq.cell d1
        replace d2 := hq.cell d2
        replace hr1 := hq.ints hr1
        replace hr2 := hq.ints hr2
        clear A2
        by_cases hz : xs.getD k [] = ys.getD k []
        · have hb : decide (xs.getD k [] = ys.getD k []) = true := decide_eq_true hz
          obtain ⟨bb, hbb⟩ : ∃ bb, bb = decide (xs.getD k [] = ys.getD k []) := ⟨_, rfl⟩
          have C := fun n => l00Same_any r1 r2 _ _ (wr.drewN n) (hr1.drewN n) (hr2.drewN n)
          rw [hb] at C
          have HZ := Lib.hid hz
          have HC := Lib.hid C
          clear hz hb C hbb hr1 hr2
          go_wp2
          go_quiet ((go_at_call 109; exact Calls.quiet_of (HC.out _)))
          go_wp2
          go_roundw
          case rel => exact ⟨k + 1, by omega, by go_num, fun j hj => by
            rcases Nat.lt_or_ge j k with h | h
            · exact hpre.out j h
            · obtain rfl : j = k := by omega
              exact HZ.out, hq.drewN _⟩
          case measure => simp [intOf]; omega
        · have hb : decide (xs.getD k [] = ys.getD k []) = false := decide_eq_false hz
          have C := fun n => l00Same_any r1 r2 _ _ (wr.drewN n) (hr1.drewN n) (hr2.drewN n)
          rw [hb] at C
          have HZ := Lib.hid hz
          have HC := Lib.hid C
          clear hz hb C hr1 hr2
          go_wp2
          go_quiet ((go_at_call 109; exact Calls.quiet_of (HC.out _)))
          go_wp2
          go_ret
          exact ⟨ret_bool (decide_eq_false fun h => HZ.out (by rw [h])).symm, hq.drewN _⟩
      · go_wp2
        go_ret
        exact ⟨ret_bool (decide_eq_true (rows_ext HL.out.symm fun j hj => hpre.out j (by omega))).symm, hq⟩
  · have hb : ((xs.length : Int) != ys.length) = true := by simp; omega
    have HL := Lib.hid hl
    clear hl
    go_enter Try.func65, Try.ntmps65
    go_wp2
    go_ret
    exact ⟨ret_bool (decide_eq_false fun h => HL.out (by rw [h])).symm, Qu.refl _⟩

theorem slEqual_any (v1 v2 : Value) (xs ys : List Int) (w : World) (h1 : Ints w v1 xs) (h2 : Ints w v2 ys) :
    Calls Try.prog 111 #[v1, v2] w (RetQ (.bool (decide (xs = ys))) w) := by
  obtain ⟨ao1, p1, o1, c1, H1⟩ := h1.open
  obtain ⟨ao2, p2, o2, c2, H2⟩ := h2.open
  obtain rfl := H1.val
  obtain rfl := H2.val
  clear h1 h2
  have hm := H1.len
  by_cases hl : ys.length = xs.length
  · have A2 := H2.adr
    rw [hl] at A2 ⊢
    have HL := Lib.hid hl
    clear hl
    go_enter Try.func111, Try.ntmps111
    go_wp2
    go_loopw [5, 13] (fun _ i wr => ∃ k : Nat, k ≤ xs.length ∧ i = .int .i64 k ∧ Hid (∀ j, j < k → xs.getD j 0 = ys.getD j 0) ∧ ∃ n, wr = w.drewN n) (fun _ i _ => xs.length - (intOf i).toNat)
    case atStart => exact ⟨0, Nat.zero_le _, rfl, fun j hj => absurd hj (by omega), 0, rfl⟩
    case round =>
      obtain ⟨k, hk, rfl, hpre, n, rfl⟩ := hrel
      by_cases hlt : k < xs.length
      · have i1 := idx_of Try.underlying79 size1_int (c := c1) H1.adr hlt .i64
        have i2 := idx_of Try.underlying79 size1_int (c := c2) A2 hlt .i64
        obtain ⟨z1, hz1, d1⟩ := H1.at hlt
        obtain ⟨z2, hz2, d2⟩ := H2.at (by rw [HL.out]; exact hlt)
        have HZ1 := Lib.hid hz1
        have HZ2 := Lib.hid hz2
        clear hz1 hz2 A2
        by_cases hz : z1 = z2
        · have hb : (z1 != z2) = false := by simp [hz]
          have HZ := Lib.hid hz
          clear hz
          go_wp2
          go_quiet (fail)
          go_wp2
          go_roundw
          case rel => exact ⟨k + 1, by omega, by go_num, fun j hj => by
            rcases Nat.lt_or_ge j k with h | h
            · exact hpre.out j h
            · obtain rfl : j = k := by omega
              rw [HZ1.out, HZ2.out, HZ.out], _, rfl⟩
          case measure => simp [intOf]; omega
        · have hb : (z1 != z2) = true := by simp [hz]
          have HZ := Lib.hid hz
          clear hz
          go_wp2
          go_quiet (fail)
          go_wp2
          go_ret
          exact ⟨ret_bool (decide_eq_false fun h => HZ.out (by rw [← HZ1.out, ← HZ2.out, h])).symm, n + nq, by simp⟩
      · go_wp2
        go_ret
        exact ⟨ret_bool (decide_eq_true (list_ext HL.out.symm fun j hj => hpre.out j (by omega))).symm, _, rfl⟩
  · have hb : ((xs.length : Int) != ys.length) = true := by simp; omega
    have HL := Lib.hid hl
    clear hl
    go_enter Try.func111, Try.ntmps111
    go_wp2
    go_ret
    exact ⟨ret_bool (decide_eq_false fun h => HL.out (by rw [h])).symm, 0, rfl⟩

theorem equalFuncRows_any (v1 v2 : Value) (xs ys : List (List Int)) (w : World) (h1 : Rows2 w v1 xs) (h2 : Rows2 w v2 ys) :
    Calls Try.prog 110 #[v1, v2, .func (.func 111) #[] #[]] w (RetQ (.bool (decide (xs = ys))) w) := by
  obtain ⟨ao1, p1, o1, c1, H1⟩ := h1.open
  obtain ⟨ao2, p2, o2, c2, H2⟩ := h2.open
  obtain rfl := H1.val
  obtain rfl := H2.val
  clear h1 h2
  have hm := H1.len
  by_cases hl : ys.length = xs.length
  · have A2 := H2.adr
    rw [hl] at A2 ⊢
    have HL := Lib.hid hl
    clear hl
    go_enter Try.func110, Try.ntmps110
    go_wp2
    go_loopw [7, 8, 9, 17] (fun _ _ _ i wr => ∃ k : Nat, k ≤ xs.length ∧ i = .int .i64 k ∧ Hid (∀ j, j < k → xs.getD j [] = ys.getD j []) ∧ Qu w wr) (fun _ _ _ i _ => xs.length - (intOf i).toNat)
    case atStart => exact ⟨0, Nat.zero_le _, rfl, fun j hj => absurd hj (by omega), Qu.refl _⟩
    case round =>
      obtain ⟨k, hk, rfl, hpre, hq⟩ := hrel
      by_cases hlt : k < xs.length
      · have i1 := idx_of Try.underlying22 size1_ints (c := c1) H1.adr hlt .i64
        have i2 := idx_of Try.underlying22 size1_ints (c := c2) A2 hlt .i64
        obtain ⟨r1, d1, hr1⟩ := H1.cell k hlt
        obtain ⟨r2, d2, hr2⟩ := H2.cell k (by rw [HL.out]; exact hlt)
        replace d1 := hq.cell d1
        replace d2 := hq.cell d2
        have C := slEqual_any r1 r2 _ _ wr (hq.ints hr1) (hq.ints hr2)
        clear A2 hr1 hr2
        by_cases hz : xs.getD k [] = ys.getD k []
        · rw [decide_eq_true hz] at C
          have HZ := Lib.hid hz
          have HC := Lib.hid C
          clear hz C
          go_wp2_with fail
          refine HC.out.mono ?_
          rintro e w2 ⟨rfl, hq2⟩
          have hq3 := hq.trans hq2
          go_wp2
          go_roundw
          case rel => exact ⟨k + 1, by omega, by go_num, fun j hj => by
            rcases Nat.lt_or_ge j k with h | h
            · exact hpre.out j h
            · obtain rfl : j = k := by omega
              exact HZ.out, hq3⟩
          case measure => simp [intOf]; omega
        · rw [decide_eq_false hz] at C
          have HZ := Lib.hid hz
          have HC := Lib.hid C
          clear hz C
          go_wp2_with fail
          refine HC.out.mono ?_
          rintro e w2 ⟨rfl, hq2⟩
          have hq3 := hq.trans hq2
          go_wp2
          go_ret
          exact ⟨ret_bool (decide_eq_false fun h => HZ.out (by rw [h])).symm, hq3⟩
      · go_wp2
        go_ret
        exact ⟨ret_bool (decide_eq_true (rows_ext HL.out.symm fun j hj => hpre.out j (by omega))).symm, hq⟩
  · have hb : ((xs.length : Int) != ys.length) = true := by simp; omega
    have HL := Lib.hid hl
    clear hl
    go_enter Try.func110, Try.ntmps110
    go_wp2
    go_ret
    exact ⟨ret_bool (decide_eq_false fun h => HL.out (by rw [h])).symm, Qu.refl _⟩

theorem sameTable_any (v1 v2 : Value) (xs ys : List (List Int)) (w : World) (h1 : Rows2 w v1 xs) (h2 : Rows2 w v2 ys) :
    Calls Try.prog 68 #[v1, v2] w (RetQ (.bool (decide (xs = ys))) w) := by
  have HC := Lib.hid (equalFuncRows_any v1 v2 xs ys w h1 h2)
  clear h1 h2
  go_enter Try.func68, Try.ntmps68
  go_wp2_with fail
  refine HC.out.mono ?_
  rintro e w2 ⟨rfl, hq⟩
  go_wp2
  go_ret
  exact ⟨rfl, hq⟩


end Go.Proofs.Ytfenkhhfiomfeaa
