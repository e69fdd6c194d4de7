import Derived.Test.YtfdacodbiodiaaaGreatDoorHelp1
import Derived.Test.YtfdacodbiodiaaaGreatDoorOwn
import Derived.Test.YtfdacodbiodiaaaGreatDoorCube
/- l00Same, l06SameRows, slices.Equal, sameTable: are two lists, two lists of lists equal? One contract each. -/
namespace Go.Proofs.YtfdacodbiodiaaaGreatDoor
set_option linter.unusedVariables false
set_option linter.unusedSimpArgs false
open Go.ChangeShapes Go.WideShapes Go.ChangeAt Go.RowKit


theorem l00Same_any (v1 v2 : Value) (xs ys : List Int) (w : World) (h1 : Ints w v1 xs) (h2 : Ints w v2 ys) :
    Calls Tryz.prog 49 #[v1, v2] w (RetQ (.bool (decide (xs = ys))) w) := by
  obtain ⟨ao1, p1, o1, c1, H1⟩ := h1.open
  obtain ⟨ao2, p2, o2, c2, H2⟩ := h2.open
  obtain rfl := H1.val
  obtain rfl := H2.val
  clear h1 h2
  have hm := H1.len
  by_cases hl : ys.length = xs.length
  · have A2 := H2.adr
    rw [hl] at A2 ⊢
    have HL := Lib.hid hl
    clear hl
    go_enter Tryz.func49, Tryz.ntmps49
    go_wp2
    go_loopw [5] (fun i wr => ∃ k : Nat, k ≤ xs.length ∧ i = .int .i64 k ∧ Hid (∀ j, j < k → xs.getD j 0 = ys.getD j 0) ∧ ∃ n, wr = w.drewN n) (fun i _ => xs.length - (intOf i).toNat)
    case atStart => exact ⟨0, Nat.zero_le _, rfl, fun j hj => absurd hj (by omega), 0, rfl⟩
    case round =>
      obtain ⟨k, hk, rfl, hpre, n, rfl⟩ := hrel
      by_cases hlt : k < xs.length
      · have i1 := idx_of Tryz.underlying45 size1_int (c := c1) H1.adr hlt .i64
        have i2 := idx_of Tryz.underlying45 size1_int (c := c2) A2 hlt .i64
        obtain ⟨z1, hz1, d1⟩ := H1.at hlt
        obtain ⟨z2, hz2, d2⟩ := H2.at (by rw [HL.out]; exact hlt)
        have HZ1 := Lib.hid hz1
        have HZ2 := Lib.hid hz2
        clear hz1 hz2 A2
        by_cases hz : z1 = z2
        · have hb : (z1 != z2) = false := by simp [hz]
          have HZ := Lib.hid hz
          clear hz
          go_wp2
          go_quiet (fail)
          go_wp2
          go_roundw
          case rel => exact ⟨k + 1, by omega, by go_num, fun j hj => by
            rcases Nat.lt_or_ge j k with h | h
            · exact hpre.out j h
            · obtain rfl : j = k := by omega
              rw [HZ1.out, HZ2.out, HZ.out], _, rfl⟩
          case measure => simp [intOf]; omega
        · have hb : (z1 != z2) = true := by simp [hz]
          have HZ := Lib.hid hz
          clear hz
          go_wp2
          go_quiet (fail)
          go_wp2
          go_ret
          exact ⟨ret_bool (decide_eq_false fun h => HZ.out (by rw [← HZ1.out, ← HZ2.out, h])).symm, n + nq, by simp⟩
      · go_wp2
        go_ret
        exact ⟨ret_bool (decide_eq_true (list_ext HL.out.symm fun j hj => hpre.out j (by omega))).symm, _, rfl⟩
  · have hb : ((xs.length : Int) != ys.length) = true := by simp; omega
    have HL := Lib.hid hl
    clear hl
    go_enter Tryz.func49, Tryz.ntmps49
    go_wp2
    go_ret
    exact ⟨ret_bool (decide_eq_false fun h => HL.out (by rw [h])).symm, 0, rfl⟩

theorem sameRows_any (v1 v2 : Value) (xs ys : List (List Int)) (w : World) (h1 : Rows2 w v1 xs) (h2 : Rows2 w v2 ys) :
    Calls Tryz.prog 32 #[v1, v2] w (RetQ (.bool (decide (xs = ys))) w) := by
  obtain ⟨ao1, p1, o1, c1, H1⟩ := h1.open
  obtain ⟨ao2, p2, o2, c2, H2⟩ := h2.open
  obtain rfl := H1.val
  obtain rfl := H2.val
  clear h1 h2
  have hm := H1.len
  by_cases hl : ys.length = xs.length
  · have A2 := H2.adr
    rw [hl] at A2 ⊢
    have HL := Lib.hid hl
    clear hl
    go_enter Tryz.func32, Tryz.ntmps32
    go_wp2
    go_loopw [5] (fun i wr => ∃ k : Nat, k ≤ xs.length ∧ i = .int .i64 k ∧ Hid (∀ j, j < k → xs.getD j [] = ys.getD j []) ∧ Qu w wr) (fun i _ => xs.length - (intOf i).toNat)
    case atStart => exact ⟨0, Nat.zero_le _, rfl, fun j hj => absurd hj (by omega), Qu.refl _⟩
    case round =>
      obtain ⟨k, hk, rfl, hpre, hq⟩ := hrel
      by_cases hlt : k < xs.length
      · have i1 := idx_of Tryz.underlying24 size1_ints (c := c1) H1.adr hlt .i64
        have i2 := idx_of Tryz.underlying24 size1_ints (c := c2) A2 hlt .i64
        obtain ⟨r1, d1, hr1⟩ := H1.cell k hlt
        obtain ⟨r2, d2, hr2⟩ := H2.cell k (by rw [HL.out]; exact hlt)
        replace d1 := hq.cell d1
        replace d2 := hq.cell d2
        replace hr1 := hq.ints hr1
        replace hr2 := hq.ints hr2
        clear A2
        by_cases hz : xs.getD k [] = ys.getD k []
        · have hb : decide (xs.getD k [] = ys.getD k []) = true := decide_eq_true hz
          obtain ⟨bb, hbb⟩ : ∃ bb, bb = decide (xs.getD k [] = ys.getD k []) := ⟨_, rfl⟩
          have C := fun n => l00Same_any r1 r2 _ _ (wr.drewN n) (hr1.drewN n) (hr2.drewN n)
          rw [hb] at C
          have HZ := Lib.hid hz
          have HC := Lib.hid C
          clear hz hb C hbb hr1 hr2
          go_wp2
          go_quiet ((go_at_call 49; exact Calls.quiet_of (HC.out _)))
          go_wp2
          go_roundw
          case rel => exact ⟨k + 1, by omega, by go_num, fun j hj => by
            rcases Nat.lt_or_ge j k with h | h
            · exact hpre.out j h
            · obtain rfl : j = k := by omega
              exact HZ.out, hq.drewN _⟩
          case measure => simp [intOf]; omega
        · have hb : decide (xs.getD k [] = ys.getD k []) = false := decide_eq_false hz
          have C := fun n => l00Same_any r1 r2 _ _ (wr.drewN n) (hr1.drewN n) (hr2.drewN n)
          rw [hb] at C
          have HZ := Lib.hid hz
          have HC := Lib.hid C
          clear hz hb C hr1 hr2
          go_wp2
          go_quiet ((go_at_call 49; exact Calls.quiet_of (HC.out _)))
          go_wp2
          go_ret
          exact ⟨ret_bool (decide_eq_false fun h => HZ.out (by rw [h])).symm, hq.drewN _⟩
      · go_wp2
        go_ret
        exact ⟨ret_bool (decide_eq_true (rows_ext HL.out.symm fun j hj => hpre.out j (by omega))).symm, hq⟩
  · have hb : ((xs.length : Int) != ys.length) = true := by simp; omega
    have HL := Lib.hid hl
    clear hl
    go_enter Tryz.func32, Tryz.ntmps32
    go_wp2
    go_ret
    exact ⟨ret_bool (decide_eq_false fun h => HL.out (by rw [h])).symm, Qu.refl _⟩





end Go.Proofs.YtfdacodbiodiaaaGreatDoor

/- SameAutomaton, SamePartial, SameRoads, of the program and of the reference. One contract each. -/
namespace Go.Proofs.YtfdacodbiodiaaaGreatDoor
set_option linter.unusedVariables false
set_option linter.unusedSimpArgs false
open Go.ChangeShapes Go.WideShapes Go.ChangeAt Go.RowKit








theorem specSamePart_any (s1 s2 : Int) (v1 v2 : Value) (xs ys : List (List Int)) (w : World) (h1 : Rows2 w v1 xs) (h2 : Rows2 w v2 ys) :
    Calls Tryz.prog 12 #[.agg #[.int .i64 s1, v1], .agg #[.int .i64 s2, v2]] w (RetB (.bool (decide (s1 = s2 ∧ xs = ys))) w) := by
  obtain ⟨ao1, m1, c1, rfl, HM1⟩ := h1.shape
  obtain ⟨ao2, m2, c2, rfl, HM2⟩ := h2.shape
  by_cases hs : s1 = s2
  · have hb : (s1 == s2) = true := by simp [hs]
    have HC := fun W (hb : Below w.heap.size w W) => sameRows_any _ _ xs ys W (h1.kept hb) (h2.kept hb)
    have e : decide (s1 = s2 ∧ xs = ys) = decide (xs = ys) := by simp [hs]
    rw [e]
    generalize decide (xs = ys) = b at HC
    have HH := Lib.hid HC
    clear h1 h2 HC hs e
    go_enter Tryz.func12, Tryz.ntmps12
    go_wp2_with fail
    refine (HH.out _ ?_).mono ?_
    · repeat (first | exact Below.refl _ _ | refine below_alloc ?_ _ | refine below_drewN' ?_ _)
    rintro e w2 ⟨rfl, hq⟩
    have hbel : Below w.heap.size w w2 := below_trans (by repeat (first | exact Below.refl _ _ | refine below_alloc ?_ _)) (hq.below _)
    go_wp2
    go_ret
    exact ⟨rfl, hbel⟩
  · have hb : (s1 == s2) = false := by simp [hs]
    have e : decide (s1 = s2 ∧ xs = ys) = false := by simp [hs]
    rw [e]
    clear h1 h2 hs e
    go_enter Tryz.func12, Tryz.ntmps12
    go_wp2
    go_ret
    exact ⟨rfl, by repeat (first | exact Below.refl _ _ | refine below_alloc ?_ _)⟩


theorem specSameAuto_any (s1 s2 : Int) (v1 v2 : Value) (xs ys : List (List Int)) (w : World) (h1 : Rows2 w v1 xs) (h2 : Rows2 w v2 ys) :
    Calls Tryz.prog 19 #[.agg #[.int .i64 s1, v1], .agg #[.int .i64 s2, v2]] w (RetB (.bool (decide (s1 = s2 ∧ xs = ys))) w) := by
  obtain ⟨ao1, p1, o1, c1, H1⟩ := h1.open
  obtain ⟨ao2, p2, o2, c2, H2⟩ := h2.open
  obtain rfl := H1.val
  obtain rfl := H2.val
  clear h1 h2
  have hm := H1.len
  by_cases hs : s1 = s2
  · have hb : (s1 != s2) = false := by simp [hs]
    have e : decide (s1 = s2 ∧ xs = ys) = decide (xs = ys) := by simp [hs]
    rw [e]
    clear e hs
    by_cases hl : ys.length = xs.length
    · have A2 := H2.adr
      rw [hl] at A2 ⊢
      have HL := Lib.hid hl
      clear hl
      go_enter Tryz.func19, Tryz.ntmps19
      go_wp2
      go_loopw [5] (fun i wr => ∃ k : Nat, k ≤ xs.length ∧ i = .int .i64 k ∧ Hid (∀ j, j < k → xs.getD j [] = ys.getD j []) ∧ Below ((w.alloc (.cells #[.int .i64 s1, .slice ao1 xs.length c1] 47)).alloc (.cells #[.int .i64 s2, .slice ao2 xs.length c2] 47)).heap.size ((w.alloc (.cells #[.int .i64 s1, .slice ao1 xs.length c1] 47)).alloc (.cells #[.int .i64 s2, .slice ao2 xs.length c2] 47)) wr) (fun i _ => xs.length - (intOf i).toNat)
      case atStart => exact ⟨0, Nat.zero_le _, rfl, fun j hj => absurd hj (by omega), ((Below.refl _ _))⟩
      case round =>
        obtain ⟨k, hk, rfl, hpre, hq⟩ := hrel
        have hqw : Below w.heap.size w wr := below_trans (by repeat (first | exact Below.refl _ _ | refine below_alloc ?_ _)) hq
        have d5 : wr.cell? ⟨w.heap.size, 1, none⟩ = some (.slice ao1 xs.length c1) := by rw [hq.cell (by simp <;> omega)]; go_simp
        have d6 : wr.cell? ⟨w.heap.size + 1, 1, none⟩ = some (.slice ao2 xs.length c2) := by rw [hq.cell (by simp <;> omega)]; go_simp
        by_cases hlt : k < xs.length
        · have i1 := idx_of Tryz.underlying24 size1_ints (c := c1) H1.adr hlt .i64
          have i2 := idx_of Tryz.underlying24 size1_ints (c := c2) A2 hlt .i64
          obtain ⟨r1, d1, hr1⟩ := H1.cell k hlt
          obtain ⟨r2, d2, hr2⟩ := H2.cell k (by rw [HL.out]; exact hlt)
          replace d1 := (hqw.cell (block_lt_of_cell d1)).trans d1
          replace d2 := (hqw.cell (block_lt_of_cell d2)).trans d2
          replace hr1 := hr1.kept hqw
          replace hr2 := hr2.kept hqw
          have C := fun n => l00Same_any r1 r2 _ _ (wr.drewN n) (hr1.drewN n) (hr2.drewN n)
          clear A2
          by_cases hz : xs.getD k [] = ys.getD k []
          · rw [decide_eq_true hz] at C
            have HZ := Lib.hid hz
            have HC := Lib.hid C
            clear hz C hr1 hr2
            go_wp2
            go_quiet ((go_at_call 49; exact Calls.quiet_of (HC.out _)))
            go_wp2
            go_roundw
            case rel => exact ⟨k + 1, by omega, by go_num, fun j hj => by
              rcases Nat.lt_or_ge j k with h | h
              · exact hpre.out j h
              · obtain rfl : j = k := by omega
                exact HZ.out, below_drewN' hq _⟩
            case measure => simp [intOf]; omega
          · rw [decide_eq_false hz] at C
            have HZ := Lib.hid hz
            have HC := Lib.hid C
            clear hz C hr1 hr2
            go_wp2
            go_quiet ((go_at_call 49; exact Calls.quiet_of (HC.out _)))
            go_wp2
            go_ret
            exact ⟨ret_bool (decide_eq_false fun h => HZ.out (by rw [h])).symm, below_drewN' hqw _⟩
        · go_wp2
          go_ret
          exact ⟨ret_bool (decide_eq_true (rows_ext HL.out.symm fun j hj => hpre.out j (by omega))).symm, hqw⟩
    · have hb2 : ((xs.length : Int) != ys.length) = true := by simp; omega
      have HL := Lib.hid hl
      clear hl
      go_enter Tryz.func19, Tryz.ntmps19
      go_wp2
      go_ret
      exact ⟨ret_bool (decide_eq_false fun h => HL.out (by rw [h])).symm, by repeat (first | exact Below.refl _ _ | refine below_alloc ?_ _)⟩
  · have hb : (s1 != s2) = true := by simp [hs]
    have e : decide (s1 = s2 ∧ xs = ys) = false := by simp [hs]
    rw [e]
    clear hs e
    go_enter Tryz.func19, Tryz.ntmps19
    go_wp2
    go_ret
    exact ⟨rfl, by repeat (first | exact Below.refl _ _ | refine below_alloc ?_ _)⟩






end Go.Proofs.YtfdacodbiodiaaaGreatDoor

/- SameChoice, of the program and of the reference. One contract each. -/
namespace Go.Proofs.YtfdacodbiodiaaaGreatDoor
set_option linter.unusedVariables false
set_option linter.unusedSimpArgs false
open Go.ChangeShapes Go.WideShapes Go.ChangeAt Go.RowKit





theorem specSameChoice_any (s1 s2 : Int) (v1 v2 : Value) (xs ys : List (List (List Int))) (w : World) (h1 : Rows3 w v1 xs) (h2 : Rows3 w v2 ys) :
    Calls Tryz.prog 13 #[.agg #[.int .i64 s1, v1], .agg #[.int .i64 s2, v2]] w (RetB (.bool (decide (s1 = s2 ∧ xs = ys))) w) := by
  obtain ⟨ao1, p1, o1, c1, H1⟩ := h1.open
  obtain ⟨ao2, p2, o2, c2, H2⟩ := h2.open
  obtain rfl := H1.val
  obtain rfl := H2.val
  clear h1 h2
  have hm := H1.len
  by_cases hs : s1 = s2
  · have hb : (s1 != s2) = false := by simp [hs]
    have e : decide (s1 = s2 ∧ xs = ys) = decide (xs = ys) := by simp [hs]
    rw [e]
    clear e hs
    by_cases hl : ys.length = xs.length
    · have A2 := H2.adr
      rw [hl] at A2 ⊢
      have HL := Lib.hid hl
      clear hl
      go_enter Tryz.func13, Tryz.ntmps13
      go_wp2
      go_loopw [5] (fun i wr => ∃ k : Nat, k ≤ xs.length ∧ i = .int .i64 k ∧ Hid (∀ j, j < k → xs.getD j [] = ys.getD j []) ∧ Below ((w.alloc (.cells #[.int .i64 s1, .slice ao1 xs.length c1] 30)).alloc (.cells #[.int .i64 s2, .slice ao2 xs.length c2] 30)).heap.size ((w.alloc (.cells #[.int .i64 s1, .slice ao1 xs.length c1] 30)).alloc (.cells #[.int .i64 s2, .slice ao2 xs.length c2] 30)) wr) (fun i _ => xs.length - (intOf i).toNat)
      case atStart => exact ⟨0, Nat.zero_le _, rfl, fun j hj => absurd hj (by omega), ((Below.refl _ _))⟩
      case round =>
        obtain ⟨k, hk, rfl, hpre, hq⟩ := hrel
        have hqw : Below w.heap.size w wr := below_trans (by repeat (first | exact Below.refl _ _ | refine below_alloc ?_ _)) hq
        have d5 : wr.cell? ⟨w.heap.size, 1, none⟩ = some (.slice ao1 xs.length c1) := by rw [hq.cell (by simp <;> omega)]; go_simp
        have d6 : wr.cell? ⟨w.heap.size + 1, 1, none⟩ = some (.slice ao2 xs.length c2) := by rw [hq.cell (by simp <;> omega)]; go_simp
        by_cases hlt : k < xs.length
        · have i1 := idx_of Tryz.underlying28 size1_rows (c := c1) H1.adr hlt .i64
          have i2 := idx_of Tryz.underlying28 size1_rows (c := c2) A2 hlt .i64
          obtain ⟨r1, d1, hr1⟩ := H1.cell k hlt
          obtain ⟨r2, d2, hr2⟩ := H2.cell k (by rw [HL.out]; exact hlt)
          replace d1 := (hqw.cell (block_lt_of_cell d1)).trans d1
          replace d2 := (hqw.cell (block_lt_of_cell d2)).trans d2
          replace hr1 := hr1.kept hqw
          replace hr2 := hr2.kept hqw
          have C := fun n => sameRows_any r1 r2 _ _ (wr.drewN n) (hr1.drewN n) (hr2.drewN n)
          clear A2
          by_cases hz : xs.getD k [] = ys.getD k []
          · rw [decide_eq_true hz] at C
            have HZ := Lib.hid hz
            have HC := Lib.hid C
            clear hz C hr1 hr2
            go_wp2
            go_quiet ((go_at_call 32; exact Calls.quiet_of (HC.out _)))
            go_wp2
            go_roundw
            case rel => exact ⟨k + 1, by omega, by go_num, fun j hj => by
              rcases Nat.lt_or_ge j k with h | h
              · exact hpre.out j h
              · obtain rfl : j = k := by omega
                exact HZ.out, below_drewN' hq _⟩
            case measure => simp [intOf]; omega
          · rw [decide_eq_false hz] at C
            have HZ := Lib.hid hz
            have HC := Lib.hid C
            clear hz C hr1 hr2
            go_wp2
            go_quiet ((go_at_call 32; exact Calls.quiet_of (HC.out _)))
            go_wp2
            go_ret
            exact ⟨ret_bool (decide_eq_false fun h => HZ.out (by rw [h])).symm, below_drewN' hqw _⟩
        · go_wp2
          go_ret
          exact ⟨ret_bool (decide_eq_true (cube_ext HL.out.symm fun j hj => hpre.out j (by omega))).symm, hqw⟩
    · have hb2 : ((xs.length : Int) != ys.length) = true := by simp; omega
      have HL := Lib.hid hl
      clear hl
      go_enter Tryz.func13, Tryz.ntmps13
      go_wp2
      go_ret
      exact ⟨ret_bool (decide_eq_false fun h => HL.out (by rw [h])).symm, by repeat (first | exact Below.refl _ _ | refine below_alloc ?_ _)⟩
  · have hb : (s1 != s2) = true := by simp [hs]
    have e : decide (s1 = s2 ∧ xs = ys) = false := by simp [hs]
    rw [e]
    clear hs e
    go_enter Tryz.func13, Tryz.ntmps13
    go_wp2
    go_ret
    exact ⟨rfl, by repeat (first | exact Below.refl _ _ | refine below_alloc ?_ _)⟩


end Go.Proofs.YtfdacodbiodiaaaGreatDoor
