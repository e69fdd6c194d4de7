/- l00Put: a number put to its place among rising ones, once. -/
import Derived.Test.YtfdacodbiodiaaaGreatDoorNew
import Derived.Test.YtfdacodbiodiaaaGreatDoorGood
namespace Go.Proofs.YtfdacodbiodiaaaGreatDoor
set_option linter.unusedVariables false
set_option linter.unusedSimpArgs false
open Go.ChangeShapes Go.WideShapes Go.ChangeAt Go.RowKit

def putZ : List Int → Int → List Int
  | [], z => [z]
  | y :: ys, z => if y < z then y :: putZ ys z else if y = z then y :: ys else z :: y :: ys
theorem putZ_len (zs : List Int) (z : Int) : (putZ zs z).length ≤ zs.length + 1 := by
  induction zs with
  | nil => simp [putZ]
  | cons y ys ih => unfold putZ; split; · simp; omega
                    · split <;> simp
theorem putZ_lt {zs : List Int} {k : Nat} {z : Int} (hk : k < zs.length) (h : zs.getD k 0 < z) : putZ (zs.drop k) z = zs.getD k 0 :: putZ (zs.drop (k + 1)) z := by
  rw [List.drop_eq_getElem_cons hk, putZ]
  have e : zs.getD k 0 = zs[k] := by simp [List.getD_eq_getElem?_getD, hk]
  rw [← e, if_pos h]
theorem putZ_eq {zs : List Int} {k : Nat} {z : Int} (hk : k < zs.length) (h : zs.getD k 0 = z) : putZ (zs.drop k) z = zs.getD k 0 :: zs.drop (k + 1) := by
  rw [List.drop_eq_getElem_cons hk, putZ]
  have e : zs.getD k 0 = zs[k] := by simp [List.getD_eq_getElem?_getD, hk]
  rw [← e, if_neg (by omega), if_pos h]
theorem putZ_gt {zs : List Int} {k : Nat} {z : Int} (hk : k < zs.length) (h : z < zs.getD k 0) : putZ (zs.drop k) z = z :: zs.getD k 0 :: zs.drop (k + 1) := by
  rw [List.drop_eq_getElem_cons hk, putZ]
  have e : zs.getD k 0 = zs[k] := by simp [List.getD_eq_getElem?_getD, hk]
  rw [← e, if_neg (by omega), if_neg (by omega)]
theorem drop_cons {zs : List Int} {k : Nat} (hk : k < zs.length) : zs.drop k = zs.getD k 0 :: zs.drop (k + 1) := by
  rw [List.drop_eq_getElem_cons hk]; simp [List.getD_eq_getElem?_getD, hk]
theorem snocZ (out : List Int) (y : Int) : out.map (Value.int .i64) ++ [.int .i64 y] = (out ++ [y]).map (Value.int .i64) := by simp
theorem putZ_filter {s : Int} {P : Int → Bool} : ∀ {B : List Int}, B.Pairwise (· < ·) → s ∈ B → putZ (B.filter P) s = B.filter (fun x => P x || x == s) := by
  intro B
  induction B with
  | nil => intro _ h; cases h
  | cons b B ih =>
    intro hp hs
    have hp' := List.pairwise_cons.1 hp
    by_cases hb : b = s
    · subst hb
      have hne : ∀ x ∈ B, (P x || x == b) = P x := fun x hx => by
        have : ¬ x = b := by have := hp'.1 x hx; omega
        simp [this]
      have hf : B.filter (fun x => P x || x == b) = B.filter P := List.filter_congr hne
      rw [List.filter_cons_of_pos (p := fun x => P x || x == b) (by simp), hf]
      cases hP : P b
      · rw [List.filter_cons_of_neg (by simp [hP])]
        cases hF : B.filter P with
        | nil => rfl
        | cons y ys =>
          have hy : b < y := hp'.1 y (List.mem_filter.1 (by rw [hF]; exact List.mem_cons_self .. : y ∈ B.filter P)).1
          rw [putZ, if_neg (by omega), if_neg (by omega)]
      · rw [List.filter_cons_of_pos hP, putZ, if_neg (by omega), if_pos rfl]
    · have hs' : s ∈ B := by rcases List.mem_cons.1 hs with h | h; · exact absurd h.symm hb
                             · exact h
      have hbs := hp'.1 s hs'
      cases hP : P b
      · rw [List.filter_cons_of_neg (by simp [hP]), List.filter_cons_of_neg (by simp [hP, hb]), ih hp'.2 hs']
      · rw [List.filter_cons_of_pos hP, List.filter_cons_of_pos (by simp [hP]), putZ, if_pos hbs, ih hp'.2 hs']

set_option maxRecDepth 100000 in
set_option maxHeartbeats 2000000 in
theorem l00Put_any (v : Value) (zs : List Int) (z : Int) (w : World) (h1 : Ints w v zs) (hl : zs.length ≤ 1000000) :
    Calls Tryz.prog 51 #[v, .int .i64 z] w (NewInts (putZ zs z) w) := by
  obtain ⟨ao1, p1, o1, c1, H1⟩ := h1.open
  have hv := H1.val
  subst hv
  have HE := Lib.hid (own_empty w w.heap.size (Nat.le_refl _) 2)
  clear h1
  go_enter Tryz.func51, Tryz.ntmps51
  go_wp2
  go_loopw [5, 6, 7] (fun u d i wr => ∃ (k : Nat) (b : Bool) (out : List Int), k ≤ zs.length ∧ i = .int .i64 k ∧ d = .bool b ∧ out.length ≤ k + b.toNat ∧ Hid (putZ zs z = out ++ (if b = true then zs.drop k else putZ (zs.drop k) z)) ∧ Hid (wr.ownsRow w.heap.size 2 1 u out.length (out.map (Value.int .i64))) ∧ Below w.heap.size w wr) (fun _ _ i _ => zs.length - (intOf i).toNat)
  case atStart => exact ⟨0, false, [], Nat.zero_le _, rfl, rfl, by simp, by simp [Hid], HE.out, below_alloc (Below.refl _ _) _⟩
  case round =>
    obtain ⟨k, b, out, hk, rfl, rfl, hol', HP, HO, hb⟩ := hrel
    have hol : out.length ≤ k + 1 := by have := Bool.toNat_le b; omega
    have HOL := Lib.hid hol'
    clear hol'
    by_cases hlt : k < zs.length
    · have i1 := idx_of Tryz.underlying45 size1_int (c := c1) H1.adr hlt .i64
      have d0 := H1.cell k hlt
      have d1 := below_cell hb d0
      have hbl := block_lt_of_cell d0
      have HLT := Lib.hid (fun h => putZ_lt (z := z) hlt h)
      have HEQ := Lib.hid (fun h => putZ_eq (z := z) hlt h)
      have HGT := Lib.hid (fun h => putZ_gt (z := z) hlt h)
      have HDC := Lib.hid (drop_cons hlt)
      obtain ⟨y, hy⟩ : ∃ y, y = zs.getD k 0 := ⟨_, rfl⟩
      rw [← hy] at d0 d1 HLT HEQ HGT HDC
      clear hy d0
      cases b
      · have hol2 : out.length ≤ k := by simpa using HOL.out
        rcases Int.lt_trichotomy y z with hc | hc | hc
        · have hge : ¬ z ≤ y := by omega
          have hgt : ¬ z < y := by omega
          have HN := Lib.hid (HLT.out hc)
          go_wp2_with (at_builtin; refine wpList_push elem_int rfl (.tmp 35) (.tmp 40) rfl w.heap.size rfl HO.out _ rfl rfl (by unfold maxLen; omega) (by omega) hb.size ?_; intro v6 w6 ho6 hg6 hs6)
          have HO6 := Lib.hid ho6
          have hb6 : Below w.heap.size w w6 := Below.grown hb hg6 hb.size (fun g hg => (own_block HO.out hg).1)
          clear ho6 hg6 hs6
          go_wp2
          go_roundw
          case rel => exact ⟨k + 1, false, out ++ [y], by omega, by go_num, rfl, by simp; omega, by have := HP.out; simp only [Bool.false_eq_true, if_false] at this; rw [HN.out] at this; unfold Hid; simp [this], by rw [List.length_append]; exact (snocZ out y) ▸ HO6.out, hb6⟩
          case measure => simp [intOf]; omega
        · have hge : z ≤ y := by omega
          have hgt : ¬ z < y := by omega
          have HN := Lib.hid (HEQ.out hc)
          have HC := Lib.hid hc
          clear hc
          go_wp2_with (at_builtin; refine wpList_push elem_int rfl (.tmp 35) (.tmp 40) rfl w.heap.size rfl HO.out _ rfl rfl (by unfold maxLen; omega) (by omega) hb.size ?_; intro v6 w6 ho6 hg6 hs6)
          have HO6 := Lib.hid ho6
          have hb6 : Below w.heap.size w w6 := Below.grown hb hg6 hb.size (fun g hg => (own_block HO.out hg).1)
          clear ho6 hg6 hs6
          go_wp2
          go_roundw
          case rel => exact ⟨k + 1, true, out ++ [y], by omega, by go_num, rfl, by simp; omega, by have := HP.out; simp only [Bool.false_eq_true, if_false] at this; rw [HN.out] at this; unfold Hid; simp [this], by rw [List.length_append]; exact (snocZ out y) ▸ HO6.out, hb6⟩
          case measure => simp [intOf]; omega
        · have hge : z ≤ y := by omega
          have hgt : z < y := by omega
          have HN := Lib.hid (HGT.out hc)
          clear hc
          go_wp2_with (first | (at_builtin; refine wpList_push elem_int rfl (.tmp 31) (.tmp 33) rfl w.heap.size rfl HO.out _ rfl rfl (by unfold maxLen; omega) (by omega) hb.size ?_; intro v5 w5 ho5 hg5 hs5; have d5 := grown_cell hg5 HO.out hbl d1; have hb5 : Below w.heap.size w w5 := Below.grown hb hg5 hb.size (fun g hg => (own_block HO.out hg).1)) | (at_builtin; refine wpList_push elem_int rfl (.tmp 35) (.tmp 40) rfl w.heap.size rfl ho5 _ rfl rfl (by unfold maxLen; omega) (by omega) hb5.size ?_; intro v6 w6 ho6 hg6 hs6))
          have HO6 := Lib.hid ho6
          have hb6 : Below w.heap.size w w6 := Below.grown hb5 hg6 hb5.size (fun g hg => (own_block ho5 hg).1)
          clear ho6 hg6 hs6 ho5 hg5 hs5
          go_wp2
          go_roundw
          case rel => exact ⟨k + 1, true, out ++ [z] ++ [y], by omega, by go_num, rfl, by simp; omega, by have := HP.out; simp only [Bool.false_eq_true, if_false] at this; rw [HN.out] at this; unfold Hid; simp [this], by rw [List.length_append, List.length_append]; exact (snocZ (out ++ [z]) y) ▸ (snocZ out z) ▸ HO6.out, hb6⟩
          case measure => simp [intOf]; omega
      · go_wp2_with (at_builtin; refine wpList_push elem_int rfl (.tmp 35) (.tmp 40) rfl w.heap.size rfl HO.out _ rfl rfl (by unfold maxLen; omega) (by omega) hb.size ?_; intro v6 w6 ho6 hg6 hs6)
        have HO6 := Lib.hid ho6
        have hb6 : Below w.heap.size w w6 := Below.grown hb hg6 hb.size (fun g hg => (own_block HO.out hg).1)
        clear ho6 hg6 hs6
        go_wp2
        go_roundw
        case rel => exact ⟨k + 1, true, out ++ [y], by omega, by go_num, rfl, by simp; omega, by have := HP.out; simp only [if_true] at this; rw [HDC.out] at this; unfold Hid; simp [this], by rw [List.length_append]; exact (snocZ out y) ▸ HO6.out, hb6⟩
        case measure => simp [intOf]; omega
    · obtain rfl : k = zs.length := by omega
      cases b
      · have hP := HP.out
        simp only [Bool.false_eq_true, if_false, List.drop_length, putZ] at hP
        have HP2 := Lib.hid hP
        clear hP
        go_wp2_with (at_builtin; refine wpList_push elem_int rfl (.tmp 44) (.tmp 46) rfl w.heap.size rfl HO.out _ rfl rfl (by unfold maxLen; omega) (by omega) hb.size ?_; intro v6 w6 ho6 hg6 hs6)
        have HO6 := Lib.hid ho6
        have hb6 : Below w.heap.size w w6 := Below.grown hb hg6 hb.size (fun g hg => (own_block HO.out hg).1)
        clear ho6 hg6 hs6
        go_wp2
        go_ret
        exact ⟨_, rfl, by rw [HP2.out, List.length_append]; exact (snocZ out z) ▸ HO6.out, hb6⟩
      · have hP := HP.out
        simp only [if_true, List.drop_length, List.append_nil] at hP
        have HP2 := Lib.hid hP
        clear hP
        go_wp2
        go_ret
        exact ⟨_, rfl, by rw [HP2.out]; exact HO.out, hb⟩

end Go.Proofs.YtfdacodbiodiaaaGreatDoor
