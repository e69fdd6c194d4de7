/- FnExactReadWord's walk. -/
import Derived.Test.YtbelpdaolcjcmaaReadWord
import Derived.Test.YtbelpdaolcjcmaaHelp2
namespace Go.Proofs.Ytbelpdaolcjcmaa
set_option linter.unusedVariables false
set_option linter.unusedSimpArgs false
open Go.ChangeShapes Go.WideShapes Go.ChangeAt Go.RowKit

theorem rdList_len (t : List UInt8) : (rdList t).length ≤ t.length := by
  unfold rdList
  split
  · simp
  · split
    · simp [rdL]
    · simp

/-- two owned slices lie in two blocks where one was there before the other -/
theorem own_apart {w1 w2 : World} {lo1 lo2 : Nat} {e1 e2 : TypeId} {s1 s2 : Nat} {v1 v2 : Value} {n1 n2 : Nat} {x1 x2 : List Value} (h1 : w1.ownsRow lo1 e1 s1 v1 n1 x1) (h2 : w2.ownsRow lo2 e2 s2 v2 n2 x2) (hl : w1.heap.size ≤ lo2) : v1.ownBlock = none ∨ v1.ownBlock ≠ v2.ownBlock := by
  cases hv : v1.ownBlock with
  | none => exact .inl rfl
  | some g =>
    refine .inr fun hh => ?_
    have a := own_block h1 hv
    have b := own_block h2 hh.symm
    omega

theorem walk_FnExactReadWord (w : World) (s : ByteArray) (hs : s.size ≤ 9223372036854775807) :
    Calls Try.prog 7 #[.string s] w fun e w' => e = .returned (.bool true) ∧ Below w.heap.size w w' := by
  by_cases hlong : 1048576 < s.size
  · go_enter Try.func7, Try.ntmps7
    go_wp2
    go_ret
    exact ⟨rfl, Below.refl _ _⟩
  have hl : s.size ≤ 1048576 := by omega
  have hn : (rdList s.data.toList).length ≤ 1048576 := Nat.le_trans (rdList_len _) (by rw [size_list]; exact hl)
  have HS := Lib.hid (fun W => specReadWord_any s W hl)
  have HI := Lib.hid (fun W => implReadWord_any s W hl)
  generalize rdList s.data.toList = zs at HS HI hn
  generalize rdCode s.data.toList = cd at HS HI
  clear hlong
  have hcd : (cd != cd) = false := by simp
  go_enter Try.func7, Try.ntmps7
  go_wp2_with fail
  refine (HS.out _).mono ?_
  rintro e w1 ⟨v0, rfl, ho0, hb1⟩
  go_wp2_with fail
  refine (HI.out _).mono ?_
  rintro e w2 ⟨g0, rfl, hg0, hb2⟩
  have b2 := below_trans hb1 hb2
  have HE := eqInts_any g0 v0 zs zs w2 (ints_of_own hg0) ((ints_of_own ho0).kept hb2)
  rw [show decide (zs = zs) = true by simp] at HE
  replace HE := Lib.hid HE
  go_wp2_with fail
  refine HE.out.mono ?_
  rintro e w3 ⟨rfl, hq3⟩
  have b3 := b2.trans (hq3.below _)
  have hg3 := hq3.owns hg0
  have ho3 := hq3.owns (own_below ho0 hb2)
  go_wp2_with fail
  refine (markInts_any g0 _ zs.length zs 1 w3 hg3 (by omega) (by omega)).mono ?_
  rintro e w4 ⟨rfl, hg4, hgr⟩
  have ho4 := ho3.kept hgr (own_apart ho0 hg0 (Nat.le_refl _))
  have b4 : Below w.heap.size w w4 := Below.grown b3 hgr b3.size (fun g hg => Nat.le_trans hb1.size (own_block hg0 hg).1)
  have hH := Lib.hid (fun W (hW : Below w4.heap.size w4 W) => heldInts_any g0 (run 1 zs.length) 1 W ((ints_of_own hg4).kept hW) (by omega) (by rw [run_length]; omega) (by rw [run_length]))
  have rl : Hid ((run 1 zs.length).length = zs.length) := run_length _ _
  have hh0 := hH.out w4 (Below.refl _ _)
  rw [rl.out] at hh0
  replace hh0 := Lib.hid hh0
  go_wp2_with fail
  refine hh0.out.mono ?_
  rintro e w5 ⟨rfl, rfl⟩
  have hneq : ((1 + (zs.length : Int)) != 1 + zs.length) = false := by simp
  go_wp2_with fail
  refine (HI.out _).mono ?_
  rintro e w6 ⟨h0, rfl, hh6, hb6⟩
  have b6 := below_trans b4 hb6
  have HE2 := eqInts_any h0 v0 zs zs w6 (ints_of_own hh6) (ints_of_own (own_below ho4 hb6))
  rw [show decide (zs = zs) = true by simp] at HE2
  replace HE2 := Lib.hid HE2
  go_wp2_with fail
  refine HE2.out.mono ?_
  rintro e w7 ⟨rfl, hq7⟩
  have b7 := b6.trans (hq7.below _)
  have hh7 := hH.out w7 (below_trans hb6 (hq7.below _))
  rw [rl.out] at hh7
  replace hh7 := Lib.hid hh7
  go_wp2_with fail
  refine hh7.out.mono ?_
  rintro e w8 ⟨rfl, rfl⟩
  go_wp2
  go_ret
  exact ⟨rfl, b7⟩

end Go.Proofs.Ytbelpdaolcjcmaa
