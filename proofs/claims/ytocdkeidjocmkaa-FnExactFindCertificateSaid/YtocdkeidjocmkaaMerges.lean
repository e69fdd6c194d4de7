/- The table of the words that merge pairs, its words in blocks of their own. -/
import Derived.Test.YtocdkeidjocmkaaPairs
namespace Go.Proofs.Ytocdkeidjocmkaa
set_option linter.unusedVariables false
set_option linter.unusedSimpArgs false
open Go.ChangeShapes Go.WideShapes Go.ChangeAt Go.RowKit

/-- no two of these share a block -/
def RowApart (rs : List Value) : Prop := ∀ i j, i < j → j < rs.length → (rs.getD i undef).ownBlock = none ∨ (rs.getD i undef).ownBlock ≠ (rs.getD j undef).ownBlock
theorem RowApart.snoc {rs : List Value} {r : Value} (h : RowApart rs) (hr : ∀ i, i < rs.length → (rs.getD i undef).ownBlock = none ∨ (rs.getD i undef).ownBlock ≠ r.ownBlock) : RowApart (rs ++ [r]) := by
  intro i j hij hj
  rw [List.length_append, List.length_singleton] at hj
  by_cases hjn : j < rs.length
  · rw [getD_snoc_old _ _ _ hjn, getD_snoc_old _ _ _ (by omega)]
    exact h i j hij hjn
  · obtain rfl : j = rs.length := by omega
    rw [getD_snoc_new, getD_snoc_old _ _ _ hij]
    exact hr i hij
structure MTabA (w : World) (lo : Nat) (v : Value) (Rs : List Value) (RR : List (List Value)) (n : Nat) (zs : Nat → Nat → List Int) (ok : Nat → Nat → Bool) : Prop where
  outer : w.ownsRow lo 22 1 v Rs.length Rs
  len : RR.length = Rs.length
  row : ∀ s, s < Rs.length → (RR.getD s []).length = n ∧ MRow w lo (Rs.getD s undef) (RR.getD s []) (zs s) (ok s)
  apart : ∀ s t s' t', s' < Rs.length → t < n → t' < n → (s < s' ∨ (s = s' ∧ t < t')) → ((RR.getD s []).getD t undef).ownBlock = none ∨ ((RR.getD s []).getD t undef).ownBlock ≠ ((RR.getD s' []).getD t' undef).ownBlock
section
variable {w0 w w' : World} {lo n : Nat} {v v' r : Value} {rs Rs : List Value} {RR : List (List Value)} {zs : Nat → Nat → List Int} {ok : Nat → Nat → Bool}
theorem MTabA.below (h : MTabA w lo v Rs RR n zs ok) (hb : Below w.heap.size w w') : MTabA w' lo v Rs RR n zs ok :=
  ⟨own_below h.outer hb, h.len, fun s hs => ⟨(h.row s hs).1, (h.row s hs).2.below hb⟩, h.apart⟩
theorem MTabA.low {lo2 : Nat} (h : MTabA w lo v Rs RR n zs ok) (hl : lo2 ≤ lo) : MTabA w lo2 v Rs RR n zs ok :=
  ⟨own_lo h.outer hl, h.len, fun s hs => ⟨(h.row s hs).1, (h.row s hs).2.low hl⟩, h.apart⟩
theorem MTabA.snoc (h : MTabA w0 lo v Rs RR n zs ok) (hb : Below w0.heap.size w0 w) (hg : w.grownBy w' v.ownBlock) (ho : w'.ownsRow lo 22 1 v' (Rs.length + 1) (Rs ++ [r]))
    (hl : rs.length = n) (hlo : lo ≤ w0.heap.size) (hr : MRow w w0.heap.size r rs (zs Rs.length) (ok Rs.length)) (ha : RowApart rs) : MTabA w' lo v' (Rs ++ [r]) (RR ++ [rs]) n zs ok := by
  have hout := own_below h.outer hb
  refine ⟨by rw [List.length_append]; exact ho, by simp [h.len], fun s hs => ?_, fun s t s' t' hs' ht ht' hlt => ?_⟩
  · rw [List.length_append, List.length_singleton] at hs
    by_cases hsn : s < Rs.length
    · rw [getD_snoc_old _ _ _ hsn, getD_snoc_old _ _ _ (by rw [h.len]; exact hsn)]
      exact ⟨(h.row s hsn).1, ((h.row s hsn).2.below hb).kept hout (by decide) (by decide) hg⟩
    · obtain rfl : s = Rs.length := by omega
      rw [getD_snoc_new, ← h.len, getD_snoc_new]
      rw [h.len]
      exact ⟨hl, (hr.low hlo).kept hout (by decide) (by decide) hg⟩
  · rw [List.length_append, List.length_singleton] at hs'
    by_cases hsn : s' < Rs.length
    · rw [getD_snoc_old RR rs [] (i := s') (by rw [h.len]; exact hsn), getD_snoc_old RR rs [] (i := s) (by rw [h.len]; omega)]
      exact h.apart s t s' t' hsn ht ht' hlt
    · obtain rfl : s' = Rs.length := by omega
      have e1 : (RR ++ [rs]).getD Rs.length [] = rs := by rw [← h.len, getD_snoc_new]
      rw [e1]
      rcases hlt with hlt | ⟨rfl, hlt⟩
      · rw [getD_snoc_old _ _ _ (by rw [h.len]; exact hlt)]
        obtain ⟨q1, q2⟩ := h.row s hlt
        exact apart_of_new (q2.row t (by omega)).1 (hr.row t' (by omega)).1
      · rw [e1]
        exact ha t t' hlt (by omega)
end
/-- a table of words that the call made -/
def NewTabA (n : Nat) (zs : Nat → Nat → List Int) (ok : Nat → Nat → Bool) (w : World) (e : Ending) (w' : World) : Prop :=
  ∃ v Rs RR, e = .returned v ∧ Rs.length = n ∧ MTabA w' w.heap.size v Rs RR n zs ok ∧ Below w.heap.size w w'

set_option maxRecDepth 100000 in
set_option maxHeartbeats 4000000 in
theorem mergesA_any (st : Int) (v : Value) (xss : List (List Int)) (n : Nat) (w : World) (h1 : Rows2 w v xss) (hg : Good st n xss) :
    Calls Try.prog 52 #[.agg #[.int .i64 st, v]] w (NewTabA n (mgW xss) (mgOk xss) w) := by
  have hn10 := hg.hi
  obtain ⟨ao, m, c, rfl, HM⟩ := h1.shape
  obtain rfl := hg.st
  have HMG := Lib.hid (fun s t (hs : s < n) (ht : t < n) W (hW : Below w.heap.size w W) => merging_any n _ xss n s t W (h1.kept hW) hg hs ht)
  generalize mgW xss = ZS at HMG ⊢
  generalize mgOk xss = OK at HMG ⊢
  obtain ⟨W1, hW1⟩ : ∃ W1, W1 = w.alloc (.cells #[.int .i64 n, .slice ao m c] 44) := ⟨_, rfl⟩
  have bx : Below w.heap.size w W1 := by rw [hW1]; exact below_alloc (Below.refl _ _) _
  have p0 : W1.cell? ⟨w.heap.size, 0, none⟩ = some (.int .i64 n) := by rw [hW1]; go_simp
  have p1 : W1.cell? ⟨w.heap.size, 1, none⟩ = some (.slice ao m c) := by rw [hW1]; go_simp
  have HE := Lib.hid (own_empty W1 (w.heap.size + 1) (by rw [hW1]; simp) 22)
  have hbe : Below (w.heap.size + 1) W1 (W1.alloc (.cells #[] 22)) := (Below.refl _ _).alloc (by rw [hW1]; simp) _
  subst hW1
  clear h1 hg
  go_enter Try.func52, Try.ntmps52
  go_wp2
  go_loopw [3, 12] (fun u i wr => ∃ s : Nat, s ≤ n ∧ i = .int .i64 s ∧ Hid (∃ (Rs : List Value) (RR : List (List Value)), Rs.length = s ∧ MTabA wr (w.heap.size + 1) u Rs RR n ZS OK) ∧ Below (w.heap.size + 1) (w.alloc (.cells #[.int .i64 n, .slice ao m c] 44)) wr) (fun _ i _ => n - (intOf i).toNat)
  case atStart => exact ⟨0, Nat.zero_le _, rfl, ⟨[], [], rfl, by simpa using HE.out, rfl, fun s hs => absurd hs (by simp), fun s t s' t' hs => absurd hs (by simp)⟩, hbe⟩
  case round =>
    obtain ⟨s, hs, rfl, HT, hb⟩ := hrel
    have q0 := Below.cellOf hb p0 (by omega)
    have q1 := Below.cellOf hb p1 (by omega)
    obtain ⟨Rs, RR, hRs, hT⟩ := HT.out
    obtain ⟨au, mu, cu, rfl, HMu⟩ := own_shape hT.outer
    have HT2 := Lib.hid hT
    clear HT hT
    by_cases hlt : s < n
    · obtain ⟨wo, rfl⟩ : ∃ wo : World, wo = wr := ⟨_, rfl⟩
      have HE2 := Lib.hid (own_empty wo wo.heap.size (Nat.le_refl _) 55)
      have hbe2 : Below wo.heap.size wo (wo.alloc (.cells #[] 55)) := below_alloc (Below.refl _ _) _
      have hlow : w.heap.size + 1 ≤ wo.heap.size := by have := hb.size; simp at this; omega
      have hbx : Below w.heap.size w wo := bx.trans (hb.mono (by omega))
      have hz0 := block_lt_of_cell q0
      go_wp2
      go_loopw [5, 18] (fun u i wr => ∃ t : Nat, t ≤ n ∧ i = .int .i64 t ∧ Hid (∃ rs : List Value, rs.length = t ∧ MRow wr wo.heap.size u rs (ZS s) (OK s) ∧ RowApart rs) ∧ Below wo.heap.size wo wr) (fun _ i _ => n - (intOf i).toNat)
      case atStart => exact ⟨0, Nat.zero_le _, rfl, ⟨[], rfl, ⟨by simpa using HE2.out, fun s hs => absurd hs (by simp)⟩, fun i j _ hj => absurd hj (by simp)⟩, hbe2⟩
      case round =>
        obtain ⟨t, ht, rfl, HR, hb2⟩ := hrel
        have r0 := below_cell hb2 q0
        have r1 := below_cell hb2 q1
        obtain ⟨rs, hrs, hR, hRA⟩ := HR.out
        obtain ⟨ar, mr, cr, rfl, HMr⟩ := own_shape hR.outer
        have HR2 := Lib.hid hR
        have HRA := Lib.hid hRA
        clear HR hR hRA
        by_cases hlt2 : t < n
        · have HC := Lib.hid (HMG.out s t hlt hlt2 wr (below_trans hbx hb2))
          go_wp2_with fail
          refine HC.out.mono ?_
          rintro e w4 ⟨v4, c4, rfl, ho4, hb4, hn4⟩
          obtain ⟨a4, m4, c5, rfl, HM4⟩ := own_shape ho4
          have HO4 := Lib.hid ho4
          have HN4 := Lib.hid hn4
          have HR4 := Lib.hid (HR2.out.below hb4)
          have HRA4 := Lib.hid (HRA.out.snoc fun i hi => apart_of_new (HR2.out.row i hi).1 HO4.out)
          have hbw := below_trans hb2 hb4
          clear ho4 hn4 HC
          go_wp2_with (at_builtin; refine wpList_push elem_ints rfl (.tmp 28) (.tmp 30) rfl wo.heap.size rfl HR4.out.outer _ rfl rfl (by unfold maxLen; omega) (by omega) hbw.size ?_; intro v6 w6 ho6 hg6 hs6)
          have HR6 := Lib.hid (HR4.out.snoc hg6 ho6 (by rw [hrs]; exact own_lo HO4.out hb2.size) (by rw [hrs]; exact HN4.out))
          have hb6 : Below wo.heap.size wo w6 := Below.grown hbw hg6 hbw.size (fun g hg => (own_block HR4.out.outer hg).1)
          clear ho6 hg6 hs6
          go_wp2
          go_roundw
          case rel => exact ⟨t + 1, by omega, by go_num, ⟨_, by rw [List.length_append, hrs]; rfl, HR6.out, HRA4.out⟩, hb6⟩
          case measure => simp [intOf]; omega
        · obtain rfl : t = n := by omega
          have hT3 := HT2.out.below hb2
          have HT3 := Lib.hid hT3
          have hbw := hb.trans (hb2.mono hlow)
          have hlw : w.heap.size + 1 ≤ wr.heap.size := Nat.le_trans hlow hb2.size
          clear hT3
          go_wp2_with (at_builtin; refine wpList_push elem_rows rfl (.tmp 33) (.tmp 35) rfl (w.heap.size + 1) rfl HT3.out.outer _ rfl rfl (by unfold maxLen; omega) (by omega) hlw ?_; intro v6 w6 ho6 hg6 hs6)
          have HT6 := Lib.hid (HT2.out.snoc hb2 hg6 ho6 hrs hlow (by rw [hRs]; exact HR2.out) HRA.out)
          have hb6 := Below.grown hbw hg6 hlw (fun g hg => (own_block HT3.out.outer hg).1)
          clear ho6 hg6 hs6
          go_wp2
          go_roundw
          case rel => exact ⟨s + 1, by omega, by go_num, ⟨_, _, by rw [List.length_append, hRs]; rfl, HT6.out⟩, hb6⟩
          case measure => simp [intOf]; omega
    · obtain rfl : s = n := by omega
      have hbw : Below w.heap.size w wr := bx.trans (hb.mono (by omega))
      go_wp2
      go_ret
      exact ⟨_, Rs, RR, rfl, hRs, HT2.out.low (by omega), hbw⟩

end Go.Proofs.Ytocdkeidjocmkaa
