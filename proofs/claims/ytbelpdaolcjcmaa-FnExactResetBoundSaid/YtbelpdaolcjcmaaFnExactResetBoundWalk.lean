/- FnExactResetBound's walk, and those of spec.ResetBound and impl.ResetBound. -/
import Derived.Test.YtbelpdaolcjcmaaOwn
import Derived.Test.YtbelpdaolcjcmaaIn
namespace Go.Proofs.Ytbelpdaolcjcmaa
open Go.ChangeShapes Go.WideShapes Go.ChangeAt Go.RowKit

def rsB (n : Int) : Int := if inB n 1 10 then (n - 1) * n * (n - 1) / 2 else 0
def rsC (n : Int) : Int := if inB n 1 10 then 0 else 2

theorem specResetBound_any (n : Int) (w : World) :
    Calls Try.prog 16 #[.int .i64 n] w fun e w' => e = .returned (.tuple #[.int .i64 (rsB n), .int .i64 (rsC n)]) ∧ w = w' := by
  cases hb : inB n 1 10
  · rw [show rsB n = 0 by simp [rsB, hb], show rsC n = 2 by simp [rsC, hb]]
    have HB := Lib.hid hb
    clear hb
    go_enter Try.func16, Try.ntmps16
    go_wp2_with fail
    refine (l00In_any _ _ _ _).mono ?_
    rw [HB.out]
    rintro e w' ⟨rfl, rfl⟩
    go_wp2
    go_ret2
    exact ⟨rfl, rfl⟩
  · have h := inB_true.1 hb
    clear hb
    rcases (show n = 1 ∨ n = 2 ∨ n = 3 ∨ n = 4 ∨ n = 5 ∨ n = 6 ∨ n = 7 ∨ n = 8 ∨ n = 9 ∨ n = 10 by omega) with rfl | rfl | rfl | rfl | rfl | rfl | rfl | rfl | rfl | rfl
    all_goals
      clear h
      go_enter Try.func16, Try.ntmps16
      go_wp2_with fail
      refine (l00In_any _ _ _ _).mono ?_
      rintro e w' ⟨rfl, rfl⟩
      go_wp2
      go_ret2
      exact ⟨rfl, rfl⟩

theorem implResetBound_any (n : Int) (w : World) :
    Calls Try.prog 17 #[.int .i64 n] w fun e w' => e = .returned (.tuple #[.int .i64 (rsB n), .int .i64 (rsC n)]) ∧ w = w' := by
  cases hb : inB n 1 10
  · rw [show rsB n = 0 by simp [rsB, hb], show rsC n = 2 by simp [rsC, hb]]
    have HB := Lib.hid hb
    clear hb
    go_enter Try.func17, Try.ntmps17
    go_wp2_with fail
    refine (within_any _ _ _ _).mono ?_
    rw [HB.out]
    rintro e w' ⟨rfl, rfl⟩
    go_wp2
    go_ret2
    exact ⟨rfl, rfl⟩
  · have h := inB_true.1 hb
    clear hb
    rcases (show n = 1 ∨ n = 2 ∨ n = 3 ∨ n = 4 ∨ n = 5 ∨ n = 6 ∨ n = 7 ∨ n = 8 ∨ n = 9 ∨ n = 10 by omega) with rfl | rfl | rfl | rfl | rfl | rfl | rfl | rfl | rfl | rfl
    all_goals
      clear h
      go_enter Try.func17, Try.ntmps17
      go_wp2_with fail
      refine (within_any _ _ _ _).mono ?_
      rintro e w' ⟨rfl, rfl⟩
      go_wp2
      go_ret2
      exact ⟨rfl, rfl⟩

theorem walk_FnExactResetBound (w : World) (n : Int) :
    Calls Try.prog 5 #[.int .i64 n] w fun e w' => e = .returned (.bool true) ∧ Below w.heap.size w w' := by
  have C1 := fun W => specResetBound_any n W
  have C2 := fun W => implResetBound_any n W
  generalize rsB n = b at C1 C2
  generalize rsC n = c at C1 C2
  have H1 := Lib.hid C1
  have H2 := Lib.hid C2
  clear C1 C2
  have hb : (b != b) = false := by simp
  have hc : (c != c) = false := by simp
  go_enter Try.func5, Try.ntmps5
  go_wp2_with fail
  refine (H1.out _).mono ?_
  rintro e w1 ⟨rfl, rfl⟩
  go_wp2_with fail
  refine (H2.out _).mono ?_
  rintro e w2 ⟨rfl, rfl⟩
  go_wp2
  go_ret
  exact ⟨rfl, Below.refl _ _⟩
end Go.Proofs.Ytbelpdaolcjcmaa
