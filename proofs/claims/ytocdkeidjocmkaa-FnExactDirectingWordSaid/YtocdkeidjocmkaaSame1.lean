/- l00Same, l06SameRows, slices.Equal, sameTable: are two lists, two lists of lists equal? One contract each. -/
import Derived.Test.YtocdkeidjocmkaaHelp1
import Derived.Test.YtocdkeidjocmkaaOwn
namespace Go.Proofs.Ytocdkeidjocmkaa
set_option linter.unusedVariables false
set_option linter.unusedSimpArgs false
open Go.ChangeShapes Go.WideShapes Go.ChangeAt Go.RowKit


theorem l00Same_any (v1 v2 : Value) (xs ys : List Int) (w : World) (h1 : Ints w v1 xs) (h2 : Ints w v2 ys) :
    Calls Try.prog 103 #[v1, v2] w (RetQ (.bool (decide (xs = ys))) w) := by
  obtain ⟨ao1, p1, o1, c1, H1⟩ := h1.open
  obtain ⟨ao2, p2, o2, c2, H2⟩ := h2.open
  obtain rfl := H1.val
  obtain rfl := H2.val
  clear h1 h2
  have hm := H1.len
  by_cases hl : ys.length = xs.length
  · have A2 := H2.adr
    rw [hl] at A2 ⊢
    have HL := Lib.hid hl
    clear hl
    go_enter Try.func103, Try.ntmps103
    go_wp2
    go_loopw [5] (fun i wr => ∃ k : Nat, k ≤ xs.length ∧ i = .int .i64 k ∧ Hid (∀ j, j < k → xs.getD j 0 = ys.getD j 0) ∧ ∃ n, wr = w.drewN n) (fun i _ => xs.length - (intOf i).toNat)
    case atStart => exact ⟨0, Nat.zero_le _, rfl, fun j hj => absurd hj (by omega), 0, rfl⟩
    case round =>
      obtain ⟨k, hk, rfl, hpre, n, rfl⟩ := hrel
      by_cases hlt : k < xs.length
      · have i1 := idx_of Try.underlying55 size1_int (c := c1) H1.adr hlt .i64
        have i2 := idx_of Try.underlying55 size1_int (c := c2) A2 hlt .i64
        obtain ⟨z1, hz1, d1⟩ := H1.at hlt
        obtain ⟨z2, hz2, d2⟩ := H2.at (by rw [HL.out]; exact hlt)
        have HZ1 := Lib.hid hz1
        have HZ2 := Lib.hid hz2
        clear hz1 hz2 A2
        by_cases hz : z1 = z2
        · have hb : (z1 != z2) = false := by simp [hz]
          have HZ := Lib.hid hz
          clear hz
          go_wp2
          go_quiet (fail)
          go_wp2
          go_roundw
          case rel => exact ⟨k + 1, by omega, by go_num, fun j hj => by
            rcases Nat.lt_or_ge j k with h | h
            · exact hpre.out j h
            · obtain rfl : j = k := by omega
              rw [HZ1.out, HZ2.out, HZ.out], _, rfl⟩
          case measure => simp [intOf]; omega
        · have hb : (z1 != z2) = true := by simp [hz]
          have HZ := Lib.hid hz
          clear hz
          go_wp2
          go_quiet (fail)
          go_wp2
          go_ret
          exact ⟨ret_bool (decide_eq_false fun h => HZ.out (by rw [← HZ1.out, ← HZ2.out, h])).symm, n + nq, by simp⟩
      · go_wp2
        go_ret
        exact ⟨ret_bool (decide_eq_true (list_ext HL.out.symm fun j hj => hpre.out j (by omega))).symm, _, rfl⟩
  · have hb : ((xs.length : Int) != ys.length) = true := by simp; omega
    have HL := Lib.hid hl
    clear hl
    go_enter Try.func103, Try.ntmps103
    go_wp2
    go_ret
    exact ⟨ret_bool (decide_eq_false fun h => HL.out (by rw [h])).symm, 0, rfl⟩






end Go.Proofs.Ytocdkeidjocmkaa
