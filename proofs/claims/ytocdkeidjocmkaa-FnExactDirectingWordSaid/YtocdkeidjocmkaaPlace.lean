/- The place of a number in a list: the reference's l01Place, the library's Index and Contains at []int64. -/
import Derived.Test.YtocdkeidjocmkaaIdxFunc
import Derived.Test.YtocdkeidjocmkaaNew
namespace Go.Proofs.Ytocdkeidjocmkaa
set_option linter.unusedVariables false
set_option linter.unusedSimpArgs false
open Go.ChangeShapes Go.WideShapes Go.ChangeAt Go.RowKit

def placeZ (zs : List Int) (z : Int) : Int := firstAt (fun k => decide (zs.getD k 0 = z)) zs.length
theorem placeZ_in {zs : List Int} {z : Int} (h : z ∈ zs) : ∃ k, k < zs.length ∧ zs.getD k 0 = z ∧ placeZ zs z = k ∧ ∀ j, j < k → zs.getD j 0 ≠ z := by
  have hex : ∃ k, k < zs.length ∧ zs.getD k 0 = z := by
    obtain ⟨i, hi, rfl⟩ := List.getElem_of_mem h
    exact ⟨i, hi, by simp [List.getD_eq_getElem?_getD, hi]⟩
  have key : ∀ m, (∃ k, k < m ∧ zs.getD k 0 = z) → ∃ k, k < m ∧ zs.getD k 0 = z ∧ ∀ j, j < k → zs.getD j 0 ≠ z := by
    intro m
    induction m with
    | zero => rintro ⟨k, hk, _⟩; omega
    | succ m ih =>
      rintro ⟨k, hk, hz⟩
      by_cases hb : ∃ k, k < m ∧ zs.getD k 0 = z
      · obtain ⟨q, h1, h2, h3⟩ := ih hb
        exact ⟨q, by omega, h2, h3⟩
      · have : k = m := by
          rcases Nat.lt_or_ge k m with h1 | h1
          · exact absurd ⟨k, h1, hz⟩ hb
          · omega
        subst this
        exact ⟨k, by omega, hz, fun j hj hjz => hb ⟨j, hj, hjz⟩⟩
  obtain ⟨k, h1, h2, h3⟩ := key _ hex
  exact ⟨k, h1, h2, firstAt_yes h1 (decide_eq_true h2) (fun j hj => decide_eq_false (h3 j hj)), h3⟩
theorem placeZ_out {zs : List Int} {z : Int} (h : z ∉ zs) : placeZ zs z = -1 := by
  refine firstAt_no fun k hk => decide_eq_false fun e => h ?_
  rw [← e, List.getD_eq_getElem?_getD, List.getElem?_eq_getElem hk]
  exact List.getElem_mem hk

theorem l01Place_any (v : Value) (zs : List Int) (z : Int) (w : World) (h1 : Ints w v zs) :
    Calls Try.prog 98 #[v, .int .i64 z] w fun e w' => e = .returned (.int .i64 (placeZ zs z)) ∧ w = w' := by
  obtain ⟨ao, b, o, c, H⟩ := h1.open
  have hv := H.val
  subst hv
  have hm := H.len
  have A1 := H.adr
  have HC := Lib.hid H.cell
  clear h1 H
  go_enter Try.func98, Try.ntmps98
  go_wp2
  go_loop [5] (fun i => ∃ k : Nat, k ≤ zs.length ∧ i = .int .i64 k ∧ Hid (∀ j, j < k → zs.getD j 0 ≠ z)) (fun i => zs.length - (intOf i).toNat)
  case atStart => exact ⟨0, Nat.zero_le _, rfl, fun j hj => absurd hj (by omega)⟩
  case round =>
    obtain ⟨k, hk, rfl, HN⟩ := hrel
    by_cases hlt : k < zs.length
    · have i1 := idx_of Try.underlying55 size1_int (c := c) A1 hlt .i64
      have d1 := HC.out k hlt
      obtain ⟨y, hy⟩ : ∃ y, y = zs.getD k 0 := ⟨_, rfl⟩
      rw [← hy] at d1
      have HY := Lib.hid hy
      clear hy
      by_cases he : y = z
      · have HR : Hid (placeZ zs z = (k : Int)) := firstAt_yes hlt (decide_eq_true (by rw [← HY.out]; exact he)) (fun j hj => decide_eq_false (HN.out j hj))
        have hb : (y == z) = true := by simp [he]
        clear he
        go_wp2
        go_ret
        exact ⟨ret_int HR.out.symm, rfl⟩
      · have HN2 : Hid (∀ j, j < k + 1 → zs.getD j 0 ≠ z) := fun j hj => by
          rcases Nat.lt_or_ge j k with h | h
          · exact HN.out j h
          · obtain rfl : j = k := by omega
            rw [← HY.out]; exact he
        have hb : (y == z) = false := by simp [he]
        clear he
        go_wp2
        go_round
        case rel => exact ⟨k + 1, by omega, by go_num, HN2.out⟩
        case measure => simp [intOf]; omega
    · have HR : Hid (placeZ zs z = -1) := firstAt_no fun j hj => decide_eq_false (HN.out j (by omega))
      go_wp2
      go_ret
      exact ⟨ret_int HR.out.symm, rfl⟩

theorem indexInts_any (v : Value) (zs : List Int) (z : Int) (w : World) (h1 : Ints w v zs) :
    Calls Try.prog 63 #[v, .int .i64 z] w fun e w' => e = .returned (.int .i64 (placeZ zs z)) ∧ w = w' := by
  obtain ⟨ao, b, o, c, H⟩ := h1.open
  have hv := H.val
  subst hv
  have hm := H.len
  have A1 := H.adr
  have HC := Lib.hid H.cell
  clear h1 H
  go_enter Try.func63, Try.ntmps63
  go_wp2
  go_loop [8] (fun i => ∃ k : Nat, k ≤ zs.length ∧ i = .int .i64 k ∧ Hid (∀ j, j < k → zs.getD j 0 ≠ z)) (fun i => zs.length - (intOf i).toNat)
  case atStart => exact ⟨0, Nat.zero_le _, rfl, fun j hj => absurd hj (by omega)⟩
  case round =>
    obtain ⟨k, hk, rfl, HN⟩ := hrel
    by_cases hlt : k < zs.length
    · have i1 := idx_of Try.underlying55 size1_int (c := c) A1 hlt .i64
      have d1 := HC.out k hlt
      obtain ⟨y, hy⟩ : ∃ y, y = zs.getD k 0 := ⟨_, rfl⟩
      rw [← hy] at d1
      have HY := Lib.hid hy
      clear hy
      by_cases he : y = z
      · have HR : Hid (placeZ zs z = (k : Int)) := firstAt_yes hlt (decide_eq_true (by rw [← HY.out]; exact he)) (fun j hj => decide_eq_false (HN.out j hj))
        have hb : (z == y) = true := by simp [he]
        clear he
        go_wp2
        go_ret
        exact ⟨ret_int HR.out.symm, rfl⟩
      · have HN2 : Hid (∀ j, j < k + 1 → zs.getD j 0 ≠ z) := fun j hj => by
          rcases Nat.lt_or_ge j k with h | h
          · exact HN.out j h
          · obtain rfl : j = k := by omega
            rw [← HY.out]; exact he
        have hb : (z == y) = false := by simp; exact fun e => he e.symm
        clear he
        go_wp2
        go_round
        case rel => exact ⟨k + 1, by omega, by go_num, HN2.out⟩
        case measure => simp [intOf]; omega
    · have HR : Hid (placeZ zs z = -1) := firstAt_no fun j hj => decide_eq_false (HN.out j (by omega))
      go_wp2
      go_ret
      exact ⟨ret_int HR.out.symm, rfl⟩

theorem hasInts_any (v : Value) (zs : List Int) (z : Int) (w : World) (h1 : Ints w v zs) :
    Calls Try.prog 61 #[v, .int .i64 z] w fun e w' => e = .returned (.bool (decide (z ∈ zs))) ∧ w = w' := by
  have HI := Lib.hid (indexInts_any v zs z w h1)
  by_cases hz : z ∈ zs
  · rw [decide_eq_true hz]
    obtain ⟨k, h1, h2, h3, _⟩ := placeZ_in hz
    rw [h3] at HI
    clear hz h1 h2 h3
    go_enter Try.func61, Try.ntmps61
    go_wp2_with fail
    refine HI.out.mono ?_
    rintro e w' ⟨rfl, rfl⟩
    go_wp2
    go_ret
    exact ⟨by simp, rfl⟩
  · rw [decide_eq_false hz]
    rw [placeZ_out hz] at HI
    clear hz
    go_enter Try.func61, Try.ntmps61
    go_wp2_with fail
    refine HI.out.mono ?_
    rintro e w' ⟨rfl, rfl⟩
    go_wp2
    go_ret
    exact ⟨rfl, rfl⟩

end Go.Proofs.Ytocdkeidjocmkaa
