/- FnExactWordText's walk. -/
import Derived.Test.YtbelpdaolcjcmaaWordText
import Derived.Test.YtbelpdaolcjcmaaHelp2
namespace Go.Proofs.Ytbelpdaolcjcmaa
set_option linter.unusedVariables false
set_option linter.unusedSimpArgs false
open Go.ChangeShapes Go.WideShapes Go.ChangeAt Go.RowKit

theorem walk_FnExactWordText (w : World) (v : Value) (zs : List Int) (h : Ints w v zs) :
    Calls Try.prog 6 #[v] w fun e w' => e = .returned (.bool true) ∧ Below w.heap.size w w' := by
  obtain ⟨ao, b, o, c, H1⟩ := h.open
  have hv := H1.val
  subst hv
  have hm := H1.len
  by_cases hlong : 1048576 < zs.length
  · clear h H1
    go_enter Try.func6, Try.ntmps6
    go_wp2
    go_ret
    exact ⟨rfl, Below.refl _ _⟩
  have hl : zs.length ≤ 1048576 := by omega
  have HT := Lib.hid (fun W (hW : Below w.heap.size w W) => toInts_any _ zs W (h.kept hW) hl)
  have HS := Lib.hid (fun W v' (h' : Ints W v' zs) => specWordText_any v' zs W h')
  have HI := Lib.hid (fun W v' (h' : Ints W v' zs) => implWordText_any v' zs W h')
  obtain ⟨s, hs⟩ : ∃ s : ByteArray, s = ⟨(wordTx zs).toArray⟩ := ⟨_, rfl⟩
  rw [← hs] at HS HI
  clear h H1 hlong hs
  go_enter Try.func6, Try.ntmps6
  go_wp2_with fail
  refine (HT.out _ (Below.refl _ _)).mono ?_
  rintro e w1 ⟨v1, rfl, ho1, hb1⟩
  go_wp2_with fail
  refine (HS.out _ _ (ints_of_own ho1)).mono ?_
  rintro e w2 ⟨rfl, hb2⟩
  have b2 := below_trans hb1 hb2
  go_wp2_with fail
  refine (HT.out _ b2).mono ?_
  rintro e w3 ⟨v3, rfl, ho3, hb3⟩
  have b3 := below_trans b2 hb3
  go_wp2_with fail
  refine (HI.out _ _ (ints_of_own ho3)).mono ?_
  rintro e w4 ⟨rfl, hb4⟩
  have b4 := below_trans b3 hb4
  go_wp2_with fail
  refine (HT.out _ b4).mono ?_
  rintro e w5 ⟨v5, rfl, ho5, hb5⟩
  have b5 := below_trans b4 hb5
  have HE := eqInts_any v3 v5 zs zs w5 ((ints_of_own ho3).kept (below_trans hb4 hb5)) (ints_of_own ho5)
  rw [show decide (zs = zs) = true by simp] at HE
  replace HE := Lib.hid HE
  go_wp2_with fail
  refine HE.out.mono ?_
  rintro e w6 ⟨rfl, hq6⟩
  go_wp2
  go_ret
  exact ⟨rfl, b5.trans (hq6.below _)⟩

end Go.Proofs.Ytbelpdaolcjcmaa
