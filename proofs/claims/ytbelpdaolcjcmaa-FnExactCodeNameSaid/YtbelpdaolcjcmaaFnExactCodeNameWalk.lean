/- FnExactCodeName's walk, and those of spec.CodeName and impl.CodeName. -/
import Derived.Test.YtbelpdaolcjcmaaOwn
import Derived.Test.YtbelpdaolcjcmaaIn
namespace Go.Proofs.Ytbelpdaolcjcmaa
open Go.ChangeShapes Go.WideShapes Go.ChangeAt Go.RowKit

/-- the name of a code -/
def codeNm (n : Int) : List UInt8 :=
  if n = 0 then [111, 107] else if n = 1 then [105, 110, 118, 97, 108, 105, 100] else if n = 2 then [114, 97, 110, 103, 101] else if n = 3 then [108, 105, 109, 105, 116]
  else if n = 4 then [115, 116, 97, 116, 101] else if n = 5 then [115, 121, 110, 116, 97, 120] else if n = 6 then [110, 111, 116, 102, 111, 117, 110, 100]
  else if n = 7 then [98, 117, 100, 103, 101, 116] else if n = 8 then [112, 114, 111, 111, 102] else []

theorem codeNm_out {n : Int} (h : n < 0 ∨ 8 < n) : codeNm n = [] := by
  unfold codeNm
  repeat (rw [if_neg (by omega)])

set_option maxHeartbeats 1000000 in
theorem specCodeName_any (n : Int) (w : World) :
    Calls Try.prog 14 #[.int .i64 n] w (RetB (.string ⟨(codeNm n).toArray⟩) w) := by
  cases hb : inB n 0 8
  · have h := inB_false.1 hb
    rw [codeNm_out (by omega)]
    have HB := Lib.hid hb
    clear hb h
    go_enter Try.func14, Try.ntmps14
    go_wp2_with fail
    refine (l00In_any _ _ _ _).mono ?_
    rw [HB.out]
    rintro e w' ⟨rfl, rfl⟩
    go_wp2
    go_ret
    exact ⟨rfl, below_alloc (Below.refl _ _) _⟩
  · have h := inB_true.1 hb
    clear hb
    rcases (show n = 0 ∨ n = 1 ∨ n = 2 ∨ n = 3 ∨ n = 4 ∨ n = 5 ∨ n = 6 ∨ n = 7 ∨ n = 8 by omega) with rfl | rfl | rfl | rfl | rfl | rfl | rfl | rfl | rfl
    all_goals
      clear h
      go_enter Try.func14, Try.ntmps14
      go_wp2_with fail
      refine (l00In_any _ _ _ _).mono ?_
      rintro e w' ⟨rfl, rfl⟩
      go_wp2
      go_ret
      exact ⟨rfl, below_alloc (Below.refl _ _) _⟩

set_option maxHeartbeats 1000000 in
theorem implCodeName_any (n : Int) (w : World) :
    Calls Try.prog 15 #[.int .i64 n] w (RetB (.string ⟨(codeNm n).toArray⟩) w) := by
  by_cases h0 : n < 0
  · rw [codeNm_out (by omega)]
    go_enter Try.func15, Try.ntmps15
    go_wp2
    go_ret
    exact ⟨rfl, below_alloc (Below.refl _ _) _⟩
  · by_cases h9 : 8 < n
    · rw [codeNm_out (by omega)]
      go_enter Try.func15, Try.ntmps15
      go_wp2
      go_ret
      exact ⟨rfl, below_alloc (Below.refl _ _) _⟩
    · rcases (show n = 0 ∨ n = 1 ∨ n = 2 ∨ n = 3 ∨ n = 4 ∨ n = 5 ∨ n = 6 ∨ n = 7 ∨ n = 8 by omega) with rfl | rfl | rfl | rfl | rfl | rfl | rfl | rfl | rfl
      all_goals
        clear h0 h9
        go_enter Try.func15, Try.ntmps15
        go_wp2
        go_ret
        exact ⟨rfl, below_alloc (Below.refl _ _) _⟩

theorem walk_FnExactCodeName (w : World) (n : Int) :
    Calls Try.prog 4 #[.int .i64 n] w fun e w' => e = .returned (.bool true) ∧ Below w.heap.size w w' := by
  obtain ⟨s, hs⟩ : ∃ s : ByteArray, s = ⟨(codeNm n).toArray⟩ := ⟨_, rfl⟩
  have C1 := fun W => specCodeName_any n W
  have C2 := fun W => implCodeName_any n W
  rw [← hs] at C1 C2
  have H1 := Lib.hid C1
  have H2 := Lib.hid C2
  clear C1 C2 hs
  go_enter Try.func4, Try.ntmps4
  go_wp2_with fail
  refine (H1.out _).mono ?_
  rintro e w1 ⟨rfl, h1⟩
  go_wp2_with fail
  refine (H2.out _).mono ?_
  rintro e w2 ⟨rfl, h2⟩
  go_wp2
  go_ret
  exact ⟨rfl, below_trans h1 h2⟩
end Go.Proofs.Ytbelpdaolcjcmaa
