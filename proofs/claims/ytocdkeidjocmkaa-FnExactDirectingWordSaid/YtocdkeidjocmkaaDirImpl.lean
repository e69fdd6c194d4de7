/- DirectingWord of the program. -/
import Derived.Test.YtocdkeidjocmkaaDirOrd
import Derived.Deep.Cut
import Derived.Deep.DeepCutAuto
import Derived.Deep.RegionHeld3
import Derived.Deep.RegionLaw
namespace Go.Proofs.Ytocdkeidjocmkaa
set_option linter.unusedVariables false
set_option linter.unusedSimpArgs false
open Go.ChangeShapes Go.WideShapes Go.ChangeAt Go.RowKit

set_option maxRecDepth 100000 in
set_option maxHeartbeats 8000000 in
theorem implDirect_any (st : Int) (v : Value) (xss : List (List (List Int))) (kind : Int) (w : World) (h1 : Rows3 w v xss) :
    Calls Try.prog 39 #[.agg #[.int .i64 st, v], .int .i64 kind] w (NewInts2 (dwZs st xss kind) (dwCd st xss kind) w) := by
  obtain ⟨ao, m, c, rfl, HM⟩ := h1.shape
  obtain ⟨W1, hW1⟩ : ∃ W1, W1 = w.alloc (.cells #[.int .i64 st, .slice ao m c] 28) := ⟨_, rfl⟩
  have bx : Below w.heap.size w W1 := by rw [hW1]; exact below_alloc (Below.refl _ _) _
  have p0 : W1.cell? ⟨w.heap.size, 0, none⟩ = some (.int .i64 st) := by rw [hW1]; go_simp
  have p1 : W1.cell? ⟨w.heap.size, 1, none⟩ = some (.slice ao m c) := by rw [hW1]; go_simp
  have HOK := Lib.hid (validChoice_any st _ xss W1 (h1.kept bx))
  have HKD := Lib.hid (fun W => isKind_any kind W)
  cases hv : validC st xss
  · rw [show dwZs st xss kind = [] by simp [dwZs, hv], show dwCd st xss kind = 1 by simp [dwCd, hv]]
    rw [hv] at HOK
    subst hW1
    clear hv h1
    go_enter Try.func39, Try.ntmps39
    go_wp2_with fail
    refine HOK.out.mono ?_
    rintro e w2 ⟨rfl, hq⟩
    have hb := below_trans bx hq
    go_wp2
    go_ret2
    exact ints2_nil _ hb
  cases hk : inB kind 1 3
  · rw [show dwZs st xss kind = [] by simp [dwZs, hv, hk], show dwCd st xss kind = 2 by simp [dwCd, hv, hk]]
    rw [hv] at HOK
    rw [hk] at HKD
    subst hW1
    clear hv h1 hk
    go_enter Try.func39, Try.ntmps39
    go_wp2_with fail
    refine HOK.out.mono ?_
    rintro e w2 ⟨rfl, hq⟩
    have hb := below_trans bx hq
    go_wp2_with fail
    refine (HKD.out _).mono ?_
    rintro e w3 ⟨rfl, rfl⟩
    go_wp2
    go_ret2
    exact ints2_nil _ hb
  obtain ⟨n, hg⟩ := goodC_of hv
  have hz : dwZs st xss kind = if dirB kind (firstD n) = true then [] else (endD xss n kind).word := by unfold dwZs; rw [if_pos hv, if_pos hk, show st.toNat = n by have := hg.st; omega]
  have hc : dwCd st xss kind = if dirB kind (firstD n) = true then 0 else (endD xss n kind).code := by unfold dwCd; rw [if_pos hv, if_pos hk, show st.toNat = n by have := hg.st; omega]
  generalize dwZs st xss kind = Z0 at hz ⊢
  generalize dwCd st xss kind = c0 at hc ⊢
  have HZ0 := Lib.hid hz
  have HC0 := Lib.hid hc
  rw [hv] at HOK
  rw [hk] at HKD
  have HK := Lib.hid hk
  obtain rfl := hg.st
  have hn1 := hg.lo
  have hn10 := hg.hi
  have hl1 := hg.len1
  have hl3 := hg.len3
  have HG := Lib.hid hg
  have H1 := Lib.hid h1
  have E1 : Hid (W1.heap.size = w.heap.size + 1) := by unfold Hid; rw [hW1]; simp
  subst hW1
  clear hv h1 hg hz hc hk
  go_enter Try.func39, Try.ntmps39
  go_wp2_with fail
  refine HOK.out.mono ?_
  rintro e w2 ⟨rfl, hq⟩
  have hb := below_trans bx hq
  replace p0 := below_cell hq p0
  replace p1 := below_cell hq p1
  have HB0 := Lib.hid hb
  clear HOK bx hq
  go_wp2_with fail
  refine (HKD.out _).mono ?_
  rintro e w3 ⟨rfl, rfl⟩
  have lb0 := block_lt_of_cell p0
  go_wp2_with (first | (refine wpList_buildT rfl rfl ?_) | (refine wpList_allocT rfl rfl ?_) | (refine wpList_storeT rfl _ _ rfl [] [] rfl rfl ?_))
  have hT0 : TB (w2.alloc (.cells (tupL []).toArray 103)) w2.heap.size ((firstD n).take 0) := TB.new w2 []
  have hbe : Below w2.heap.size w2 (w2.alloc (.cells (tupL []).toArray 103)) := below_alloc (Below.refl _ _) _
  have HFL := Lib.hid (firstD_len n)
  have HFG : Hid (∀ k, k < n → (firstD n).getD k 0 = 2 ^ k) := fun k hk => by simp [firstD, List.getD_eq_getElem?_getD, hk]
  go_loopw [28] (fun i wr => ∃ k : Nat, k ≤ n ∧ i = .int .i64 k ∧ Hid (TB wr w2.heap.size ((firstD n).take k)) ∧ Hid (Below w2.heap.size w2 wr)) (fun i _ => n - (intOf i).toNat)
  case atStart => exact ⟨0, Nat.zero_le _, rfl, hT0, hbe⟩
  case round =>
    obtain ⟨k, hk, rfl, HT, HB⟩ := hrel
    have q0 := below_cell HB.out p0
    have q1 := below_cell HB.out p1
    by_cases hlt : k < n
    · have hk10 : k < 10 := by omega
      have i1 := fun W => idx_tup (b := w2.heap.size) hk10 W
      have e1 := HT.out.cell hk10
      have f1 := frozen_of_row wr w2.heap.size k _ _ HT.out
      have HS := Lib.hid (HT.out.set hk10)
      rw [HFG.out k hlt] at HS
      go_wp2
      rw [wrap_pow_u64 (by omega)]
      have HB2 := Lib.hid (below_set HB.out (Nat.le_refl _) k (.int .u64 ((2 ^ k : Nat) : Int)))
      go_roundw
      case rel => exact ⟨k + 1, by omega, by go_num, HS.out, HB2.out⟩
      case measure => simp [intOf]; omega
    · obtain rfl : k = n := by omega
      have ht := HT.out
      rw [List.take_of_length_le (by rw [HFL.out]; exact Nat.le_refl _)] at ht
      have hgy : GoodY k (firstD k) := (GoodD.start k).key _ (List.mem_singleton_self _)
      have HGY := Lib.hid hgy
      have HKF := Lib.hid (keyOf_kl (hgy.small hn10))
      obtain ⟨w0, hw0⟩ : ∃ w0 : World, w0 = wr := ⟨_, rfl⟩
      rw [← hw0] at ht HB q0 q1 ⊢
      clear hw0 hT0 hbe HT HFG hgy
      obtain ⟨y0, hy0⟩ : ∃ y0, y0 = firstD k := ⟨_, rfl⟩
      rw [← hy0] at ht HGY HKF
      have HY0 := Lib.hid hy0
      have HT := Lib.hid ht
      have hfb := ht.lt
      have hB : Below w0.heap.size w0 w0.drew := (Below.refl _ _).drew
      clear hy0 ht
      go_upto_region 11 with fail
      go_cut [8, 9] (fun lv mv wx => ∃ mb : Nat, mv = .map (some mb) ∧ w0.heap.size ≤ mb ∧ DInv k w0 wx w0.heap.size mb lv [y0] [(y0, [])])
      case first =>
        refine wp_region_held_drew (S := fun w' => w'.rangeAt w2.heap.size 0 (tupL y0) ∧ Below w0.heap.size w0 w') (by kernel_rfl) (heldR HT.out rfl hB) (fun hH0 => ?_)
        refine takeD (i := 0) (v := tupV y0) (d := some 36) rfl rfl (by kernel_rfl) (by kernel_rfl) (by kernel_rfl) (fun _ _ _ h => h) (yieldsIf_load_mid (by rfl) _ _ rfl _ _ rfl (tupL y0) _ (fun w hw => hw.1) under_tuple rfl (by rw [tupL_len]; exact size_tuple)) hH0 ?_
        simp only [Act.put, List.setIfInBounds_toArray, List.set_cons_zero, List.set_cons_succ]
        refine takeD (i := 3) (v := tupV y0) (d := some 39) rfl rfl (by kernel_rfl) (by kernel_rfl) (by kernel_rfl) (fun _ _ _ h => h) (yieldsIf_load_mid (by rfl) _ _ rfl _ _ rfl (tupL y0) _ (fun w hw => hw.1) under_tuple rfl (by rw [tupL_len]; exact size_tuple)) hH0 ?_
        simp only [Act.put, List.setIfInBounds_toArray, List.set_cons_zero, List.set_cons_succ]
        refine ready3 (i := 1) (j := 2) (k := 4) (by kernel_rfl) ?_ ?_ ?_
        · refine wpOp_litT (d := some 37) rfl rfl rfl _ rfl y0 rfl fun w' hb hL => ⟨heldR HT.out rfl (below_trans hB hb), ?_⟩
          have hlb := hB.size
          replace hB := below_trans hB hb
          simp only [Act.put, List.setIfInBounds_toArray, List.set_cons_zero, List.set_cons_succ]
          refine takeD (i := 7) (d := some 8) (v := .slice (some ⟨_, 0, none⟩) 1 1) rfl rfl (by kernel_rfl) (by kernel_rfl) (by kernel_rfl) (fun _ _ _ h => h) (yields_assign rfl _ rfl rfl) (heldR HT.out rfl hB) ?_
          simp only [Act.put, List.setIfInBounds_toArray, List.set_cons_zero, List.set_cons_succ]
          refine ready2 (i := 2) (j := 4) (by kernel_rfl) ?_ ?_
          · refine wpOp_map (d := some 38) (kt := 103) rfl rfl rfl rfl fun w' hb hM => ⟨heldR HT.out rfl (below_trans hB hb), ?_⟩
            have hmb := hB.size
            replace hL := hL.next hb
            replace hB := below_trans hB hb
            simp only [Act.put, List.setIfInBounds_toArray, List.set_cons_zero, List.set_cons_succ]
            refine ready1 (i := 4) (by kernel_rfl) ?_
            refine wpOp_lit0 (d := some 40) rfl rfl rfl rfl fun w' hb hE => ⟨heldR HT.out rfl (below_trans hB hb), ?_⟩
            have heb := hB.size
            replace hM := hM.below hb
            replace hL := hL.next hb
            replace hB := below_trans hB hb
            simp only [Act.put, List.setIfInBounds_toArray, List.set_cons_zero, List.set_cons_succ]
            refine ready1 (i := 5) (by kernel_rfl) ?_
            refine wpOp_put (d := none) rfl rfl rfl _ _ _ (.inl rfl) hM law_tuple Try.underlying105 (by unfold maxLen; omega) rfl rfl rfl HKF.out fun w' hm hg => ⟨heldR HT.out rfl (below_put hB hg hB.size hmb), ?_⟩
            replace hL := hL.put hM hg
            replace hE := hE.put hM hg
            replace hB := below_put hB hg hB.size hmb
            replace hM := hm
            clear hm hg
            simp only [Act.put, List.setIfInBounds_toArray, List.set_cons_zero, List.set_cons_succ]
            refine takeD (i := 6) (d := some 41) (v := .map (some _)) rfl rfl (by kernel_rfl) (by kernel_rfl) (by kernel_rfl) (fun _ _ _ h => h) (yields_move rfl _ rfl rfl) (heldR HT.out rfl hB) ?_
            simp only [Act.put, List.setIfInBounds_toArray, List.set_cons_zero, List.set_cons_succ]
            refine takeD (i := 8) (d := some 9) (v := .map (some _)) rfl rfl (by kernel_rfl) (by kernel_rfl) (by kernel_rfl) (fun _ _ _ h => h) (yields_assign rfl _ rfl rfl) (heldR HT.out rfl hB) ?_
            simp only [Act.put, List.setIfInBounds_toArray, List.set_cons_zero, List.set_cons_succ]
            refine wpAnyH_done (by kernel_rfl) ?_ _
            go_wp2_with fail
            go_meet
            case rel => exact ⟨_, rfl, hmb, DInv.start hn10 HGY.out hL hE hM hlb heb hB⟩
          · refine wpOp_lit0 (d := some 40) rfl rfl rfl rfl fun w' hb hE => ⟨heldR HT.out rfl (below_trans hB hb), ?_⟩
            have heb := hB.size
            replace hL := hL.next hb
            replace hB := below_trans hB hb
            simp only [Act.put, List.setIfInBounds_toArray, List.set_cons_zero, List.set_cons_succ]
            refine ready1 (i := 2) (by kernel_rfl) ?_
            refine wpOp_map (d := some 38) (kt := 103) rfl rfl rfl rfl fun w' hb hM => ⟨heldR HT.out rfl (below_trans hB hb), ?_⟩
            have hmb := hB.size
            replace hL := hL.next hb
            replace hE := hE.next hb
            replace hB := below_trans hB hb
            simp only [Act.put, List.setIfInBounds_toArray, List.set_cons_zero, List.set_cons_succ]
            refine ready1 (i := 5) (by kernel_rfl) ?_
            refine wpOp_put (d := none) rfl rfl rfl _ _ _ (.inl rfl) hM law_tuple Try.underlying105 (by unfold maxLen; omega) rfl rfl rfl HKF.out fun w' hm hg => ⟨heldR HT.out rfl (below_put hB hg hB.size hmb), ?_⟩
            replace hL := hL.put hM hg
            replace hE := hE.put hM hg
            replace hB := below_put hB hg hB.size hmb
            replace hM := hm
            clear hm hg
            simp only [Act.put, List.setIfInBounds_toArray, List.set_cons_zero, List.set_cons_succ]
            refine takeD (i := 6) (d := some 41) (v := .map (some _)) rfl rfl (by kernel_rfl) (by kernel_rfl) (by kernel_rfl) (fun _ _ _ h => h) (yields_move rfl _ rfl rfl) (heldR HT.out rfl hB) ?_
            simp only [Act.put, List.setIfInBounds_toArray, List.set_cons_zero, List.set_cons_succ]
            refine takeD (i := 8) (d := some 9) (v := .map (some _)) rfl rfl (by kernel_rfl) (by kernel_rfl) (by kernel_rfl) (fun _ _ _ h => h) (yields_assign rfl _ rfl rfl) (heldR HT.out rfl hB) ?_
            simp only [Act.put, List.setIfInBounds_toArray, List.set_cons_zero, List.set_cons_succ]
            refine wpAnyH_done (by kernel_rfl) ?_ _
            go_wp2_with fail
            go_meet
            case rel => exact ⟨_, rfl, hmb, DInv.start hn10 HGY.out hL hE hM hlb heb hB⟩
        · refine wpOp_map (d := some 38) (kt := 103) rfl rfl rfl rfl fun w' hb hM => ⟨heldR HT.out rfl (below_trans hB hb), ?_⟩
          have hmb := hB.size
          replace hB := below_trans hB hb
          simp only [Act.put, List.setIfInBounds_toArray, List.set_cons_zero, List.set_cons_succ]
          refine ready2 (i := 1) (j := 4) (by kernel_rfl) ?_ ?_
          · refine wpOp_litT (d := some 37) rfl rfl rfl _ rfl y0 rfl fun w' hb hL => ⟨heldR HT.out rfl (below_trans hB hb), ?_⟩
            have hlb := hB.size
            replace hM := hM.below hb
            replace hB := below_trans hB hb
            simp only [Act.put, List.setIfInBounds_toArray, List.set_cons_zero, List.set_cons_succ]
            refine takeD (i := 7) (d := some 8) (v := .slice (some ⟨_, 0, none⟩) 1 1) rfl rfl (by kernel_rfl) (by kernel_rfl) (by kernel_rfl) (fun _ _ _ h => h) (yields_assign rfl _ rfl rfl) (heldR HT.out rfl hB) ?_
            simp only [Act.put, List.setIfInBounds_toArray, List.set_cons_zero, List.set_cons_succ]
            refine ready1 (i := 4) (by kernel_rfl) ?_
            refine wpOp_lit0 (d := some 40) rfl rfl rfl rfl fun w' hb hE => ⟨heldR HT.out rfl (below_trans hB hb), ?_⟩
            have heb := hB.size
            replace hM := hM.below hb
            replace hL := hL.next hb
            replace hB := below_trans hB hb
            simp only [Act.put, List.setIfInBounds_toArray, List.set_cons_zero, List.set_cons_succ]
            refine ready1 (i := 5) (by kernel_rfl) ?_
            refine wpOp_put (d := none) rfl rfl rfl _ _ _ (.inl rfl) hM law_tuple Try.underlying105 (by unfold maxLen; omega) rfl rfl rfl HKF.out fun w' hm hg => ⟨heldR HT.out rfl (below_put hB hg hB.size hmb), ?_⟩
            replace hL := hL.put hM hg
            replace hE := hE.put hM hg
            replace hB := below_put hB hg hB.size hmb
            replace hM := hm
            clear hm hg
            simp only [Act.put, List.setIfInBounds_toArray, List.set_cons_zero, List.set_cons_succ]
            refine takeD (i := 6) (d := some 41) (v := .map (some _)) rfl rfl (by kernel_rfl) (by kernel_rfl) (by kernel_rfl) (fun _ _ _ h => h) (yields_move rfl _ rfl rfl) (heldR HT.out rfl hB) ?_
            simp only [Act.put, List.setIfInBounds_toArray, List.set_cons_zero, List.set_cons_succ]
            refine takeD (i := 8) (d := some 9) (v := .map (some _)) rfl rfl (by kernel_rfl) (by kernel_rfl) (by kernel_rfl) (fun _ _ _ h => h) (yields_assign rfl _ rfl rfl) (heldR HT.out rfl hB) ?_
            simp only [Act.put, List.setIfInBounds_toArray, List.set_cons_zero, List.set_cons_succ]
            refine wpAnyH_done (by kernel_rfl) ?_ _
            go_wp2_with fail
            go_meet
            case rel => exact ⟨_, rfl, hmb, DInv.start hn10 HGY.out hL hE hM hlb heb hB⟩
          · refine wpOp_lit0 (d := some 40) rfl rfl rfl rfl fun w' hb hE => ⟨heldR HT.out rfl (below_trans hB hb), ?_⟩
            have heb := hB.size
            replace hM := hM.below hb
            replace hB := below_trans hB hb
            simp only [Act.put, List.setIfInBounds_toArray, List.set_cons_zero, List.set_cons_succ]
            refine ready2 (i := 1) (j := 5) (by kernel_rfl) ?_ ?_
            · refine wpOp_litT (d := some 37) rfl rfl rfl _ rfl y0 rfl fun w' hb hL => ⟨heldR HT.out rfl (below_trans hB hb), ?_⟩
              have hlb := hB.size
              replace hM := hM.below hb
              replace hE := hE.next hb
              replace hB := below_trans hB hb
              simp only [Act.put, List.setIfInBounds_toArray, List.set_cons_zero, List.set_cons_succ]
              refine takeD (i := 7) (d := some 8) (v := .slice (some ⟨_, 0, none⟩) 1 1) rfl rfl (by kernel_rfl) (by kernel_rfl) (by kernel_rfl) (fun _ _ _ h => h) (yields_assign rfl _ rfl rfl) (heldR HT.out rfl hB) ?_
              simp only [Act.put, List.setIfInBounds_toArray, List.set_cons_zero, List.set_cons_succ]
              refine ready1 (i := 5) (by kernel_rfl) ?_
              refine wpOp_put (d := none) rfl rfl rfl _ _ _ (.inl rfl) hM law_tuple Try.underlying105 (by unfold maxLen; omega) rfl rfl rfl HKF.out fun w' hm hg => ⟨heldR HT.out rfl (below_put hB hg hB.size hmb), ?_⟩
              replace hL := hL.put hM hg
              replace hE := hE.put hM hg
              replace hB := below_put hB hg hB.size hmb
              replace hM := hm
              clear hm hg
              simp only [Act.put, List.setIfInBounds_toArray, List.set_cons_zero, List.set_cons_succ]
              refine takeD (i := 6) (d := some 41) (v := .map (some _)) rfl rfl (by kernel_rfl) (by kernel_rfl) (by kernel_rfl) (fun _ _ _ h => h) (yields_move rfl _ rfl rfl) (heldR HT.out rfl hB) ?_
              simp only [Act.put, List.setIfInBounds_toArray, List.set_cons_zero, List.set_cons_succ]
              refine takeD (i := 8) (d := some 9) (v := .map (some _)) rfl rfl (by kernel_rfl) (by kernel_rfl) (by kernel_rfl) (fun _ _ _ h => h) (yields_assign rfl _ rfl rfl) (heldR HT.out rfl hB) ?_
              simp only [Act.put, List.setIfInBounds_toArray, List.set_cons_zero, List.set_cons_succ]
              refine wpAnyH_done (by kernel_rfl) ?_ _
              go_wp2_with fail
              go_meet
              case rel => exact ⟨_, rfl, hmb, DInv.start hn10 HGY.out hL hE hM hlb heb hB⟩
            · refine wpOp_put (d := none) rfl rfl rfl _ _ _ (.inl rfl) hM law_tuple Try.underlying105 (by unfold maxLen; omega) rfl rfl rfl HKF.out fun w' hm hg => ⟨heldR HT.out rfl (below_put hB hg hB.size hmb), ?_⟩
              replace hE := hE.put hM hg
              replace hB := below_put hB hg hB.size hmb
              replace hM := hm
              clear hm hg
              simp only [Act.put, List.setIfInBounds_toArray, List.set_cons_zero, List.set_cons_succ]
              refine takeD (i := 6) (d := some 41) (v := .map (some _)) rfl rfl (by kernel_rfl) (by kernel_rfl) (by kernel_rfl) (fun _ _ _ h => h) (yields_move rfl _ rfl rfl) (heldR HT.out rfl hB) ?_
              simp only [Act.put, List.setIfInBounds_toArray, List.set_cons_zero, List.set_cons_succ]
              refine ready1 (i := 1) (by kernel_rfl) ?_
              refine wpOp_litT (d := some 37) rfl rfl rfl _ rfl y0 rfl fun w' hb hL => ⟨heldR HT.out rfl (below_trans hB hb), ?_⟩
              have hlb := hB.size
              replace hM := hM.below hb
              replace hE := hE.next hb
              replace hB := below_trans hB hb
              simp only [Act.put, List.setIfInBounds_toArray, List.set_cons_zero, List.set_cons_succ]
              refine takeD (i := 7) (d := some 8) (v := .slice (some ⟨_, 0, none⟩) 1 1) rfl rfl (by kernel_rfl) (by kernel_rfl) (by kernel_rfl) (fun _ _ _ h => h) (yields_assign rfl _ rfl rfl) (heldR HT.out rfl hB) ?_
              simp only [Act.put, List.setIfInBounds_toArray, List.set_cons_zero, List.set_cons_succ]
              refine takeD (i := 8) (d := some 9) (v := .map (some _)) rfl rfl (by kernel_rfl) (by kernel_rfl) (by kernel_rfl) (fun _ _ _ h => h) (yields_assign rfl _ rfl rfl) (heldR HT.out rfl hB) ?_
              simp only [Act.put, List.setIfInBounds_toArray, List.set_cons_zero, List.set_cons_succ]
              refine wpAnyH_done (by kernel_rfl) ?_ _
              go_wp2_with fail
              go_meet
              case rel => exact ⟨_, rfl, hmb, DInv.start hn10 HGY.out hL hE hM hlb heb hB⟩
        · refine wpOp_lit0 (d := some 40) rfl rfl rfl rfl fun w' hb hE => ⟨heldR HT.out rfl (below_trans hB hb), ?_⟩
          have heb := hB.size
          replace hB := below_trans hB hb
          simp only [Act.put, List.setIfInBounds_toArray, List.set_cons_zero, List.set_cons_succ]
          refine ready2 (i := 1) (j := 2) (by kernel_rfl) ?_ ?_
          · refine wpOp_litT (d := some 37) rfl rfl rfl _ rfl y0 rfl fun w' hb hL => ⟨heldR HT.out rfl (below_trans hB hb), ?_⟩
            have hlb := hB.size
            replace hE := hE.next hb
            replace hB := below_trans hB hb
            simp only [Act.put, List.setIfInBounds_toArray, List.set_cons_zero, List.set_cons_succ]
            refine takeD (i := 7) (d := some 8) (v := .slice (some ⟨_, 0, none⟩) 1 1) rfl rfl (by kernel_rfl) (by kernel_rfl) (by kernel_rfl) (fun _ _ _ h => h) (yields_assign rfl _ rfl rfl) (heldR HT.out rfl hB) ?_
            simp only [Act.put, List.setIfInBounds_toArray, List.set_cons_zero, List.set_cons_succ]
            refine ready1 (i := 2) (by kernel_rfl) ?_
            refine wpOp_map (d := some 38) (kt := 103) rfl rfl rfl rfl fun w' hb hM => ⟨heldR HT.out rfl (below_trans hB hb), ?_⟩
            have hmb := hB.size
            replace hL := hL.next hb
            replace hE := hE.next hb
            replace hB := below_trans hB hb
            simp only [Act.put, List.setIfInBounds_toArray, List.set_cons_zero, List.set_cons_succ]
            refine ready1 (i := 5) (by kernel_rfl) ?_
            refine wpOp_put (d := none) rfl rfl rfl _ _ _ (.inl rfl) hM law_tuple Try.underlying105 (by unfold maxLen; omega) rfl rfl rfl HKF.out fun w' hm hg => ⟨heldR HT.out rfl (below_put hB hg hB.size hmb), ?_⟩
            replace hL := hL.put hM hg
            replace hE := hE.put hM hg
            replace hB := below_put hB hg hB.size hmb
            replace hM := hm
            clear hm hg
            simp only [Act.put, List.setIfInBounds_toArray, List.set_cons_zero, List.set_cons_succ]
            refine takeD (i := 6) (d := some 41) (v := .map (some _)) rfl rfl (by kernel_rfl) (by kernel_rfl) (by kernel_rfl) (fun _ _ _ h => h) (yields_move rfl _ rfl rfl) (heldR HT.out rfl hB) ?_
            simp only [Act.put, List.setIfInBounds_toArray, List.set_cons_zero, List.set_cons_succ]
            refine takeD (i := 8) (d := some 9) (v := .map (some _)) rfl rfl (by kernel_rfl) (by kernel_rfl) (by kernel_rfl) (fun _ _ _ h => h) (yields_assign rfl _ rfl rfl) (heldR HT.out rfl hB) ?_
            simp only [Act.put, List.setIfInBounds_toArray, List.set_cons_zero, List.set_cons_succ]
            refine wpAnyH_done (by kernel_rfl) ?_ _
            go_wp2_with fail
            go_meet
            case rel => exact ⟨_, rfl, hmb, DInv.start hn10 HGY.out hL hE hM hlb heb hB⟩
          · refine wpOp_map (d := some 38) (kt := 103) rfl rfl rfl rfl fun w' hb hM => ⟨heldR HT.out rfl (below_trans hB hb), ?_⟩
            have hmb := hB.size
            replace hE := hE.next hb
            replace hB := below_trans hB hb
            simp only [Act.put, List.setIfInBounds_toArray, List.set_cons_zero, List.set_cons_succ]
            refine ready2 (i := 1) (j := 5) (by kernel_rfl) ?_ ?_
            · refine wpOp_litT (d := some 37) rfl rfl rfl _ rfl y0 rfl fun w' hb hL => ⟨heldR HT.out rfl (below_trans hB hb), ?_⟩
              have hlb := hB.size
              replace hM := hM.below hb
              replace hE := hE.next hb
              replace hB := below_trans hB hb
              simp only [Act.put, List.setIfInBounds_toArray, List.set_cons_zero, List.set_cons_succ]
              refine takeD (i := 7) (d := some 8) (v := .slice (some ⟨_, 0, none⟩) 1 1) rfl rfl (by kernel_rfl) (by kernel_rfl) (by kernel_rfl) (fun _ _ _ h => h) (yields_assign rfl _ rfl rfl) (heldR HT.out rfl hB) ?_
              simp only [Act.put, List.setIfInBounds_toArray, List.set_cons_zero, List.set_cons_succ]
              refine ready1 (i := 5) (by kernel_rfl) ?_
              refine wpOp_put (d := none) rfl rfl rfl _ _ _ (.inl rfl) hM law_tuple Try.underlying105 (by unfold maxLen; omega) rfl rfl rfl HKF.out fun w' hm hg => ⟨heldR HT.out rfl (below_put hB hg hB.size hmb), ?_⟩
              replace hL := hL.put hM hg
              replace hE := hE.put hM hg
              replace hB := below_put hB hg hB.size hmb
              replace hM := hm
              clear hm hg
              simp only [Act.put, List.setIfInBounds_toArray, List.set_cons_zero, List.set_cons_succ]
              refine takeD (i := 6) (d := some 41) (v := .map (some _)) rfl rfl (by kernel_rfl) (by kernel_rfl) (by kernel_rfl) (fun _ _ _ h => h) (yields_move rfl _ rfl rfl) (heldR HT.out rfl hB) ?_
              simp only [Act.put, List.setIfInBounds_toArray, List.set_cons_zero, List.set_cons_succ]
              refine takeD (i := 8) (d := some 9) (v := .map (some _)) rfl rfl (by kernel_rfl) (by kernel_rfl) (by kernel_rfl) (fun _ _ _ h => h) (yields_assign rfl _ rfl rfl) (heldR HT.out rfl hB) ?_
              simp only [Act.put, List.setIfInBounds_toArray, List.set_cons_zero, List.set_cons_succ]
              refine wpAnyH_done (by kernel_rfl) ?_ _
              go_wp2_with fail
              go_meet
              case rel => exact ⟨_, rfl, hmb, DInv.start hn10 HGY.out hL hE hM hlb heb hB⟩
            · refine wpOp_put (d := none) rfl rfl rfl _ _ _ (.inl rfl) hM law_tuple Try.underlying105 (by unfold maxLen; omega) rfl rfl rfl HKF.out fun w' hm hg => ⟨heldR HT.out rfl (below_put hB hg hB.size hmb), ?_⟩
              replace hE := hE.put hM hg
              replace hB := below_put hB hg hB.size hmb
              replace hM := hm
              clear hm hg
              simp only [Act.put, List.setIfInBounds_toArray, List.set_cons_zero, List.set_cons_succ]
              refine takeD (i := 6) (d := some 41) (v := .map (some _)) rfl rfl (by kernel_rfl) (by kernel_rfl) (by kernel_rfl) (fun _ _ _ h => h) (yields_move rfl _ rfl rfl) (heldR HT.out rfl hB) ?_
              simp only [Act.put, List.setIfInBounds_toArray, List.set_cons_zero, List.set_cons_succ]
              refine ready1 (i := 1) (by kernel_rfl) ?_
              refine wpOp_litT (d := some 37) rfl rfl rfl _ rfl y0 rfl fun w' hb hL => ⟨heldR HT.out rfl (below_trans hB hb), ?_⟩
              have hlb := hB.size
              replace hM := hM.below hb
              replace hE := hE.next hb
              replace hB := below_trans hB hb
              simp only [Act.put, List.setIfInBounds_toArray, List.set_cons_zero, List.set_cons_succ]
              refine takeD (i := 7) (d := some 8) (v := .slice (some ⟨_, 0, none⟩) 1 1) rfl rfl (by kernel_rfl) (by kernel_rfl) (by kernel_rfl) (fun _ _ _ h => h) (yields_assign rfl _ rfl rfl) (heldR HT.out rfl hB) ?_
              simp only [Act.put, List.setIfInBounds_toArray, List.set_cons_zero, List.set_cons_succ]
              refine takeD (i := 8) (d := some 9) (v := .map (some _)) rfl rfl (by kernel_rfl) (by kernel_rfl) (by kernel_rfl) (fun _ _ _ h => h) (yields_assign rfl _ rfl rfl) (heldR HT.out rfl hB) ?_
              simp only [Act.put, List.setIfInBounds_toArray, List.set_cons_zero, List.set_cons_succ]
              refine wpAnyH_done (by kernel_rfl) ?_ _
              go_wp2_with fail
              go_meet
              case rel => exact ⟨_, rfl, hmb, DInv.start hn10 HGY.out hL hE hM hlb heb hB⟩
      case rest =>
        obtain ⟨mb, rfl, hmb, hI⟩ := hcut
        obtain rfl : m = xss.length := HM.out
        have HI0 := Lib.hid hI
        have HMB := Lib.hid hmb
        have HT1 := Lib.hid (HT.out.next hI.below)
        have HSL := Lib.hid (fun W => slice_tup (b := w2.heap.size) hn10 W)
        have r0 := below_cell hI.below q0
        have r1 := below_cell hI.below q1
        have HDR := Lib.hid (directs_tup kind HT1.out HGY.out hn1 hn10 HK.out)
        have hs0 := HSL.out
        have HQ0 := Lib.hid q0
        have HQ1 := Lib.hid q1
        clear hI hB hfb q0 q1
        cases hdf : dirB kind y0
        · rw [hdf] at HDR
          have hZ := HZ0.out
          have hC := HC0.out
          rw [if_neg (by rw [← HY0.out, hdf]; decide)] at hZ hC
          replace HZ0 := Lib.hid hZ
          replace HC0 := Lib.hid hC
          clear hdf hZ hC
          go_wp2_with fail
          refine HDR.out.mono ?_
          rintro e w5 ⟨rfl, hq5⟩
          have HI5 := Lib.hid (HI0.out.next (hq5.below _))
          clear hq5 HI0 HT1 HDR hs0 HSL r0 r1
          go_wp2
          have HIS := HI5.out
          rw [HY0.out] at HIS
          have HIS2 := Lib.hid HIS
          have HW0 := Lib.hid (below_trans HB0.out HB.out)
          clear HIS HI5
          go_loopw [8, 10] (fun lv i wr => ∃ (j : Nat) (T : Dir), j ≤ T.length ∧ i = .int .i64 j ∧ Hid (outerD xss k kind j = .run T) ∧ Hid (DInv k w0 wr w0.heap.size mb lv T.keys T)) (fun _ i _ => 2001 - (intOf i).toNat)
          case atStart => exact ⟨0, [(firstD k, [])], Nat.zero_le _, rfl, rfl, HIS2.out⟩
          case round =>
            obtain ⟨j, T, hj, rfl, HTO, HI⟩ := hrel
            obtain ⟨wo, rfl⟩ : ∃ wo : World, wo = wr := ⟨_, rfl⟩
            have hgt := GoodD.outer HG.out j T HTO.out
            have hpos := hgt.pos
            have hmany := hgt.many
            have HGT := Lib.hid hgt
            obtain ⟨lg, lc, rfl, _⟩ := own_some HI.out.list (by rw [Dir.keys_len]; exact hpos)
            rw [Dir.keys_len] at HI ⊢
            by_cases hlt : j < T.length
            · have hl := HI.out.list
              rw [Dir.keys_len] at hl
              have hlg : lg < wo.heap.size := (own_block hl rfl).2
              have i1 := fun W => idx_tups (g := lg) (n := T.length) (c := lc) hlt W
              have hr := list_range hl (Dir.keys_len T).symm hlt
              rw [Dir.keys_at hlt] at hr
              have hkey : GoodY k (T.at j).1 := hgt.key _ (Dir.at_mem hlt)
              obtain ⟨ak, hak⟩ : ∃ ak, ak = (T.at j).1 := ⟨_, rfl⟩
              rw [← hak] at hr hkey
              have HAK := Lib.hid hak
              have HKY := Lib.hid hkey
              have HR := Lib.hid hr
              have r0 := below_cell HI.out.below HQ0.out
              have r1 := below_cell HI.out.below HQ1.out
              have hwl := block_lt_of_cell r0
              have HLET := Lib.hid (fun W => lettersChoice_any k ao xss.length c W (by omega))
              clear hak hkey hr hl hgt
              go_wp2_with (first | (refine wpList_loadT rfl _ rfl lg (j * 10) ak rfl HR.out ?_) | (refine wpList_allocT rfl rfl ?_) | (refine wpList_storeT rfl _ _ rfl [] ak rfl rfl ?_))
              refine (HLET.out _).mono ?_
              rintro e w4 ⟨rfl, hb4⟩
              have hbt : Below wo.heap.size wo w4 := below_trans (below_alloc (Below.refl _ _) _) hb4
              have HT4 := Lib.hid ((TB.new wo ak).next hb4)
              have HI4 := Lib.hid (HI.out.next hbt)
              clear i1 HR r0 r1 HLET hb4 hbt
              go_wp2
              go_loopw [8, 59] (fun lv i wr => ∃ (x : Nat) (U : Dir), x ≤ xss.length ∧ i = .int .i64 x ∧ Hid (innerD xss k kind j T x = .run U) ∧ Hid (DInv k w0 wr w0.heap.size mb lv U.keys U) ∧ Hid (TB wr wo.heap.size ak) ∧ Hid (lv.ownBlock ≠ some wo.heap.size)) (fun _ i _ => xss.length - (intOf i).toNat)
              case atStart => exact ⟨0, T, Nat.zero_le _, rfl, rfl, HI4.out, HT4.out, ne_block hlg⟩
              case round =>
                obtain ⟨x, U, hx, rfl, HUI, HX, HTT, HNE⟩ := hrel
                obtain ⟨hgx, V, hV⟩ := HGT.out.inner HG.out hlt x U hx HUI.out
                have hUk : j < U.length := by rw [hV, List.length_append]; omega
                have hUm := hgx.many
                have hUT : T.length ≤ U.length := by rw [hV, List.length_append]; omega
                have hAU : U.at j = T.at j := by rw [hV]; exact Dir.at_pre hlt
                have HAU := Lib.hid hAU
                have HGX := Lib.hid hgx
                clear hV hAU
                obtain ⟨lg2, lc2, rfl, _⟩ := own_some HX.out.list (by rw [Dir.keys_len]; omega)
                rw [Dir.keys_len] at HX HNE ⊢
                by_cases hltx : x < xss.length
                · obtain ⟨wi, rfl⟩ : ∃ wi : World, wi = wr := ⟨_, rfl⟩
                  have r0 := below_cell HX.out.below HQ0.out
                  have r1 := below_cell HX.out.below HQ1.out
                  have lwi := block_lt_of_cell r0
                  have hwl := HGX.out.word _ (Dir.at_mem hUk)
                  have HKU := Lib.hid (fun p hp => HGX.out.key p hp)
                  rw [HAU.out] at hwl
                  have HSY := Lib.hid (fun h => stepD_yes (rows := xss) (n := k) (kind := kind) (i := j) (x := x) (T := U) h)
                  have HSF := Lib.hid (fun h h2 => stepD_found (rows := xss) (n := k) (kind := kind) (i := j) (x := x) (T := U) h h2)
                  have HSM := Lib.hid (fun h h2 h3 => stepD_many (rows := xss) (n := k) (kind := kind) (i := j) (x := x) (T := U) h h2 h3)
                  have HSP := Lib.hid (fun h h2 h3 => stepD_push (rows := xss) (n := k) (kind := kind) (i := j) (x := x) (T := U) h h2 h3)
                  have HSX := Lib.hid (innerD_succ HUI.out)
                  have HEND := Lib.hid (fun w c h => endD_done (w := w) (c := c) HTO.out hlt hmany hltx HUI.out h)
                  rw [HAU.out, ← HAK.out] at HSY HSF HSM HSP
                  have hag : GoodY k (goA (xss.getD x []) k ak) := goA_good HG.out hltx HKY.out.1
                  have HGA : Hid (∀ s, s < k → (goA (xss.getD x []) k ak).getD s 0 = goN (xss.getD x []) (ak.getD s 0) k) := fun s hs => by
                    have h2 : s < ak.length := by rw [HKY.out.1]; exact hs
                    simp [goA, List.getD_eq_getElem?_getD, h2]
                  obtain ⟨zs, hzs⟩ : ∃ zs, zs = (T.at j).2 := ⟨_, rfl⟩
                  rw [← hzs] at hwl HSF HSP
                  have HZS := Lib.hid hzs
                  have HGN := Lib.hid (fun f (W : World) (hW : Below w0.heap.size w0 W) (hf : f < 2 ^ k) => choStep_any k _ xss k f x W (H1.out.kept (below_trans HW0.out hW)) HG.out hltx hf)
                  obtain ⟨row, hrow⟩ : ∃ row, row = xss.getD x [] := ⟨_, rfl⟩
                  rw [← hrow] at hag HSY HSF HSM HSP HGA HGN
                  obtain ⟨y, hy⟩ : ∃ y, y = goA row k ak := ⟨_, rfl⟩
                  rw [← hy] at hag HSY HSF HSM HSP HGA
                  have HYG := Lib.hid hag
                  have HW := Lib.hid hwl
                  have HEM : Hid (TB (wi.alloc (.cells (tupL []).toArray 103)) wi.heap.size (y.take 0)) := TB.new wi []
                  have hbe : Below wi.heap.size wi (wi.alloc (.cells (tupL []).toArray 103)) := below_alloc (Below.refl _ _) _
                  have hlw : lg2 < wi.heap.size := (own_block HX.out.list rfl).2
                  have htw := HTT.out.lt
                  clear hgx hag hrow hy hzs hwl
                  go_wp2_with (first | (refine wpList_buildT rfl rfl ?_) | (refine wpList_allocT rfl rfl ?_) | (refine wpList_storeT rfl _ _ rfl [] [] rfl rfl ?_))
                  go_loopw [65] (fun i wr => ∃ s : Nat, s ≤ k ∧ i = .int .i64 s ∧ Hid (TB wr wi.heap.size (y.take s)) ∧ Hid (Below wi.heap.size wi wr)) (fun i _ => k - (intOf i).toNat)
                  case atStart => exact ⟨0, Nat.zero_le _, rfl, HEM.out, hbe⟩
                  case round =>
                    obtain ⟨s, hs, rfl, HTN, HBN⟩ := hrel
                    have q0 := below_cell HBN.out r0
                    have q1 := below_cell HBN.out r1
                    have HTW := Lib.hid (HTT.out.next HBN.out)
                    have HXR := Lib.hid (HX.out.next HBN.out)
                    by_cases hlts : s < k
                    · have hs10 : s < 10 := by omega
                      have hfl : ak.getD s 0 < 2 ^ k := HKY.out.2 _ (by have h2 : s < ak.length := (by rw [HKY.out.1]; exact hlts); rw [List.getD_eq_getElem?_getD, List.getElem?_eq_getElem h2]; exact List.getElem_mem h2)
                      have e1 := HTW.out.cell hs10
                      have j1 := fun W => idx_tup (b := wo.heap.size) hs10 W
                      have j2 := fun W => idx_tup (b := wi.heap.size) hs10 W
                      have HST := Lib.hid (fun W (hW : Below wr.heap.size wr W) => HGN.out (ak.getD s 0) W (HXR.out.below.trans (hW.mono HXR.out.low)) hfl)
                      have HYS := Lib.hid (HGA.out s hlts)
                      obtain ⟨fs, hfs⟩ : ∃ fs, fs = ak.getD s 0 := ⟨_, rfl⟩
                      rw [← hfs] at e1 HST HYS
                      obtain ⟨q, hq⟩ : ∃ q, q = goN row fs k := ⟨_, rfl⟩
                      rw [← hq] at HST HYS
                      have lw := block_lt_of_cell q0
                      have lt2 := HTW.out.lt
                      have ln2 := HTN.out.lt
                      clear hfs hq hfl r0 r1
                      go_wp2
                      go_region_law (first | (go_simp; go_at_call 78; (with_reducible refine (HST.out _ (Below.refl _ _).drew).mono ?_); rintro e w8 ⟨rfl, hb8⟩; have hb8' : Below wr.heap.size wr w8 := below_trans (Below.refl _ _).drew hb8; have HT8 := Lib.hid (HTN.out.next hb8'); have e8 := HT8.out.cell hs10; have f8 := frozen_of_row w8 wi.heap.size s _ _ HT8.out; have HS8 := Lib.hid (HT8.out.set hs10)))
                      all_goals
                        have HS9 := HS8.out
                        rw [HYS.out] at HS9
                        have HS10 := Lib.hid HS9
                        have HB10 := Lib.hid (below_set (below_trans HBN.out hb8') (Nat.le_refl _) s (.int .u64 (q : Int)))
                        clear HS9 HS8 e8 f8 HT8
                        go_wp2
                        go_roundw
                        case rel => exact ⟨s + 1, by omega, by go_num, HS10.out, HB10.out⟩
                        case measure => simp [intOf]; omega
                    · obtain rfl : s = k := by omega
                      have ht := HTN.out
                      rw [List.take_of_length_le (by rw [HYG.out.1]; exact Nat.le_refl _)] at ht
                      have HN := Lib.hid ht
                      obtain ⟨F, hmp, hwd⟩ := HXR.out.words
                      have HWD := Lib.hid hwd
                      have HMP := Lib.hid hmp
                      have hne1 := hmp.ne_cells HN.out
                      have hne2 := hmp.ne_cells HTW.out
                      have HKY2 : Hid (keyOf Try.prog 103 (tupV y) = some (kl y)) := keyOf_kl (HYG.out.small hn10)
                      have HKA : Hid (keyOf Try.prog 103 (tupV ak) = some (kl ak)) := keyOf_kl (HKY.out.small hn10)
                      have hlook := hmp.lookOk law_tuple Try.underlying105 (zero_ints wr) HKY2.out
                      rw [hwd.met y HYG.out] at hlook
                      have hmet := hwd.met y HYG.out
                      clear ht hmp hwd r0 r1
                      by_cases hin : y ∈ U.keys
                      · rw [decide_eq_true hin] at hlook
                        obtain ⟨u0, hu0⟩ : ∃ u0, u0 = (F (kl y)).getD (.slice none 0 0) := ⟨_, rfl⟩
                        rw [← hu0] at hlook
                        have HST : Hid (innerD xss s kind j T (x + 1) = .run U) := by unfold Hid; rw [HSX.out]; exact HSY.out hin
                        clear hin hmet hu0
                        go_wp2_with (refine wpList_loadT rfl _ rfl wi.heap.size 0 y rfl HN.out.range ?_)
                        go_roundw
                        case rel => exact ⟨x + 1, U, by omega, by go_num, HST.out, HXR.out, HTW.out, HNE.out⟩
                        case measure => simp [intOf]; omega
                      · rw [decide_eq_false hin] at hlook hmet
                        have hnone : F (kl y) = none := by simpa using hmet
                        rw [hnone] at hlook
                        obtain ⟨uf, huf, hof, _⟩ := HWD.out.word j hUk
                        rw [HAU.out] at huf hof
                        rw [← HAK.out] at huf
                        rw [← HZS.out] at hof
                        have HFU : Hid (F (kl ak) = some uf) := huf
                        have HIN := Lib.hid hin
                        have HOF := Lib.hid (ints_of_own hof)
                        have HCL := Lib.hid (fun W (hW : Below wr.heap.size wr W) => cloneInts_any uf zs W (HOF.out.kept hW) (by have := HW.out; omega))
                        have hzl : zs.length < U.length := HW.out
                        have HHD := Lib.hid (fun w' (hg : wr.grownBy w' (some mb)) => heldD HN.out HTW.out hne1 hne2 hg)
                        have hB : Below wr.heap.size wr wr.drew := (Below.refl _ _).drew
                        have hM := HMP.out.below hB
                        have hlo := HXR.out.low
                        clear hin hmet hnone huf hof
                        go_upto_region 29 with (refine wpList_loadT rfl _ rfl wi.heap.size 0 y rfl HN.out.range ?_)
                        clear hlook q0 q1
                        refine wp_region_held_drew (S := fun w' => w'.rangeAt wi.heap.size 0 (tupL y) ∧ w'.rangeAt wo.heap.size 0 (tupL ak) ∧ wr.grownBy w' (some mb)) (by kernel_rfl) (HHD.out _ (grown_of_below hB)) (fun hH0 => ?_)
                        refine takeD (i := 0) (v := .map (some mb)) (d := some 84) rfl rfl (by kernel_rfl) (by kernel_rfl) (by kernel_rfl) (fun _ _ _ h => h) (yields_move rfl _ rfl rfl) hH0 ?_
                        simp only [Act.put, List.setIfInBounds_toArray, List.set_cons_zero, List.set_cons_succ]
                        refine takeD (i := 1) (v := tupV y) (d := some 85) rfl rfl (by kernel_rfl) (by kernel_rfl) (by kernel_rfl) (fun _ _ _ h => h) (yieldsIf_load_mid (by rfl) _ _ rfl _ _ rfl (tupL y) _ (fun w hw => hw.1) under_tuple rfl (by rw [tupL_len]; exact size_tuple)) hH0 ?_
                        simp only [Act.put, List.setIfInBounds_toArray, List.set_cons_zero, List.set_cons_succ]
                        refine takeD (i := 2) (v := .map (some mb)) (d := some 86) rfl rfl (by kernel_rfl) (by kernel_rfl) (by kernel_rfl) (fun _ _ _ h => h) (yields_move rfl _ rfl rfl) hH0 ?_
                        simp only [Act.put, List.setIfInBounds_toArray, List.set_cons_zero, List.set_cons_succ]
                        refine takeD (i := 3) (v := tupV ak) (d := some 87) rfl rfl (by kernel_rfl) (by kernel_rfl) (by kernel_rfl) (fun _ _ _ h => h) (yieldsIf_load_mid (by rfl) _ _ rfl _ _ rfl (tupL ak) _ (fun w hw => hw.2.1) under_tuple rfl (by rw [tupL_len]; exact size_tuple)) hH0 ?_
                        simp only [Act.put, List.setIfInBounds_toArray, List.set_cons_zero, List.set_cons_succ]
                        refine takeD (i := 6) (v := .int .i64 x) (d := some 90) rfl rfl (by kernel_rfl) (by kernel_rfl) (by kernel_rfl) (fun _ _ _ h => h) (yields_move rfl _ rfl rfl) hH0 ?_
                        simp only [Act.put, List.setIfInBounds_toArray, List.set_cons_zero, List.set_cons_succ]
                        refine ready2 (i := 4) (j := 7) (by kernel_rfl) ?_ ?_
                        · refine wpOp_look (d := some 88) rfl rfl rfl _ _ rfl rfl rfl (hM.lookSome law_tuple Try.underlying105 (zero_ints _) HKA.out HFU.out) ⟨HHD.out _ (grown_of_below hB), ?_⟩
                          simp only [Act.put, List.setIfInBounds_toArray, List.set_cons_zero, List.set_cons_succ]
                          refine ready2 (i := 5) (j := 7) (by kernel_rfl) ?_ ?_
                          · refine wpOp_stepS rfl fun K' hK => ?_
                            go_simp
                            go_at_call 64
                            refine (HCL.out _ hB).mono ?_
                            rintro e w8 ⟨v8, rfl, ho8, hb8⟩
                            refine hK.out _ _ ⟨HHD.out _ (grown_of_below (below_trans hB hb8)), ?_⟩
                            have hO := own_lo ho8 hB.size
                            replace hM := hM.below hb8
                            replace hB := below_trans hB hb8
                            clear hK ho8 hb8 K'
                            try simp only [Act.put, List.setIfInBounds_toArray, List.set_cons_zero, List.set_cons_succ]
                            refine ready1 (i := 7) (by kernel_rfl) ?_
                            refine wpOp_lit1 (d := some 91) rfl rfl rfl _ rfl (x : Int) rfl fun w' hb hC => ⟨HHD.out _ (grown_of_below (below_trans hB hb)), ?_⟩
                            replace hM := hM.below hb
                            replace hO := own_below hO hb
                            replace hB := below_trans hB hb
                            simp only [Act.put, List.setIfInBounds_toArray, List.set_cons_zero, List.set_cons_succ]
                            refine ready1 (i := 8) (by kernel_rfl) ?_
                            refine wpOp_stepS rfl fun K' hK => ?_
                            refine step_appD (d := some 92) elem_int rfl rfl (.tmp 89) (.tmp 91) rfl wr.heap.size rfl hO _ (.int .i64 x) rfl hC.cell rfl (by unfold maxLen; omega) (by omega) hB.size ?_
                            intro v9 w9 ho9 hg9 hs9
                            have hb9 : Below wr.heap.size wr w9 := Below.grown hB hg9 hB.size (fun g hg => (own_block hO hg).1)
                            refine hK.out _ _ ⟨HHD.out _ (grown_of_below hb9), ?_⟩
                            replace hM := hM.kept hg9 (hM.ne_own hO)
                            clear hK hg9 hs9 hB hO hC K'
                            simp only [Act.put, List.setIfInBounds_toArray, List.set_cons_zero, List.set_cons_succ]
                            refine ready1 (i := 9) (by kernel_rfl) ?_
                            refine wpOp_put (d := none) rfl rfl rfl _ _ _ (.inr rfl) hM law_tuple Try.underlying105 (by unfold maxLen; omega) rfl rfl rfl HKY2.out fun w10 hm10 hg10 => ⟨HHD.out _ (grown_and (grown_of_below hb9) hg10 (fun j hj => .inr hj)), ?_⟩
                            simp only [Act.put, List.setIfInBounds_toArray, List.set_cons_zero, List.set_cons_succ]
                            refine wpAnyH_done (by kernel_rfl) ?_ _
                            have HN9 := Lib.hid (HN.out.next hb9)
                            have HA9 := Lib.hid (HTW.out.next hb9)
                            have HN10 := Lib.hid (HN9.out.grown hg10 (fun e => hne1 (by injection e with e; exact e.symm)))
                            have HA10 := Lib.hid (HA9.out.grown hg10 (fun e => hne2 (by injection e with e; exact e.symm)))
                            have HX10 := Lib.hid ((HXR.out.next hb9).put hn10 HKU.out hM (HWD.out.below hb9) hm10 hg10 HYG.out HIN.out HMB.out (zs := zs ++ [(x : Int)]) (own_lo (by rw [List.map_append, List.length_append]; exact ho9) HXR.out.low) (by obtain ⟨g, cap, e, _⟩ := own_some ho9 (by omega); rw [e]; intro h; cases h))
                            have hl10 := HX10.out.list
                            rw [Dir.keys_len] at hl10
                            have HL10 := Lib.hid hl10
                            have hlow10 := HX10.out.low
                            have hl2 : lg2 < w10.heap.size := (own_block hl10 rfl).2
                            have ht10 := HA10.out.lt
                            clear hM hm10 hg10 ho9 hb9 hl10
                            have HD11 : Hid (∀ W, TB W wi.heap.size y → Calls Try.prog 76 #[.slice (some ⟨wi.heap.size, 0, none⟩) s 10, .int .i64 kind] W (RetQ (.bool (dirB kind y)) W)) := fun W h => directs_tup kind h HYG.out hn1 hn10 HK.out
                            have hs0 := fun W => slice_tup (b := wi.heap.size) hn10 W
                            go_wp2_with (first | (refine wpList_loadT rfl _ rfl wi.heap.size 0 y rfl HN10.out.range ?_) | (refine wpList_litT rfl _ rfl y rfl ?_) | (at_builtin; refine wpList_pushT rfl (.tmp 93) (.tmp 95) rfl w0.heap.size y rfl HL10.out rfl (by omega) hlow10 ?_; intro v11 w11 ho11 hg11 hs11; have HX11 := Lib.hid (HX10.out.pushList hg11 (by rw [Dir.keys_len]; exact ho11)); have HN11 := Lib.hid (HN10.out.grown hg11 (ne_block hlw)); have HA11 := Lib.hid (HA10.out.grown hg11 HNE.out); have HNE11 := Lib.hid (ne_block_new hs11 HNE.out ht10); obtain ⟨g11, c11, rfl, _⟩ := own_some ho11 (by omega); have z0 := below_cell HX11.out.below HQ0.out; have z1 := below_cell HX11.out.below HQ1.out; clear ho11 hg11 hs11))
                            have HD12 := Lib.hid (HD11.out _ HN11.out)
                            clear hs0 HX10 HN10 HA10 HL10 z0 z1
                            cases hdf : dirB kind y
                            · rw [hdf] at HD12
                              refine HD12.out.mono ?_
                              rintro e w12 ⟨rfl, hq12⟩
                              have HX12 := Lib.hid (HX11.out.next (hq12.below _))
                              by_cases h20 : 2000 ≤ U.length
                              · have hend := HEND.out _ _ (HSM.out HIN.out hdf h20)
                                have hZ : Z0 = [] := by rw [HZ0.out, hend]; rfl
                                have hC : c0 = 3 := by rw [HC0.out, hend]; rfl
                                subst hZ hC
                                have hbb := below_trans HW0.out HX12.out.below
                                clear hend hdf
                                go_wp2
                                go_ret2
                                exact ints2_nil _ hbb
                              · have HST : Hid (innerD xss s kind j T (x + 1) = .run (U ++ [(y, zs ++ [(x : Int)])])) := by unfold Hid; rw [HSX.out]; exact HSP.out HIN.out hdf (by omega)
                                have HA12 := Lib.hid (HA11.out.next (hq12.below _))
                                have HF : Hid (DInv s w0 w12 w0.heap.size mb (.slice (some ⟨g11, 0, none⟩) (U.length + 1) c11) (Dir.keys (U ++ [(y, zs ++ [(x : Int)])])) (U ++ [(y, zs ++ [(x : Int)])])) := by unfold Hid; rw [keys_snoc]; exact HX12.out
                                clear hdf HX12 hq12
                                go_wp2
                                go_roundw
                                case rel => exact ⟨x + 1, _, by omega, by go_num, HST.out, HF.out, HA12.out, HNE11.out⟩
                                case measure => simp [intOf]; omega
                            · rw [hdf] at HD12
                              have hend := HEND.out _ _ (HSF.out HIN.out hdf)
                              have hZ : Z0 = zs ++ [(x : Int)] := by rw [HZ0.out, hend]; rfl
                              have hC : c0 = 0 := by rw [HC0.out, hend]; rfl
                              subst hZ hC
                              refine HD12.out.mono ?_
                              rintro e w12 ⟨rfl, hq12⟩
                              have HX12 := Lib.hid (HX11.out.next (hq12.below _))
                              have HN12 := Lib.hid (HN11.out.next (hq12.below _))
                              obtain ⟨F2, hm2, hw2⟩ := HX12.out.words
                              obtain ⟨u2, hu2, ho2, _⟩ := hw2.word U.length (by rw [List.length_append]; simp)
                              have e2 : Dir.at (U ++ [(y, zs ++ [(x : Int)])]) U.length = (y, zs ++ [(x : Int)]) := by simp [Dir.at, List.getD_eq_getElem?_getD]
                              rw [e2] at hu2 ho2
                              have hlk := hm2.lookSome law_tuple Try.underlying105 (zero_ints w12) HKY2.out hu2
                              have HO2 := Lib.hid (own_lo ho2 HW0.out.size)
                              have hbb := below_trans HW0.out HX12.out.below
                              clear hend hdf hm2 hw2 hu2 ho2 e2 hq12
                              go_wp2_with (refine wpList_loadT rfl _ rfl wi.heap.size 0 y rfl HN12.out.range ?_)
                              go_ret2
                              exact ⟨_, rfl, HO2.out, hbb⟩
                          · refine wpOp_lit1 (d := some 91) rfl rfl rfl _ rfl (x : Int) rfl fun w' hb hC => ⟨HHD.out _ (grown_of_below (below_trans hB hb)), ?_⟩
                            replace hM := hM.below hb
                            replace hB := below_trans hB hb
                            simp only [Act.put, List.setIfInBounds_toArray, List.set_cons_zero, List.set_cons_succ]
                            refine ready1 (i := 5) (by kernel_rfl) ?_
                            refine wpOp_stepS rfl fun K' hK => ?_
                            go_simp
                            go_at_call 64
                            refine (HCL.out _ hB).mono ?_
                            rintro e w8 ⟨v8, rfl, ho8, hb8⟩
                            refine hK.out _ _ ⟨HHD.out _ (grown_of_below (below_trans hB hb8)), ?_⟩
                            have hO := own_lo ho8 hB.size
                            replace hM := hM.below hb8
                            replace hC := hC.next hb8
                            replace hB := below_trans hB hb8
                            clear hK ho8 hb8 K'
                            try simp only [Act.put, List.setIfInBounds_toArray, List.set_cons_zero, List.set_cons_succ]
                            refine ready1 (i := 8) (by kernel_rfl) ?_
                            refine wpOp_stepS rfl fun K' hK => ?_
                            refine step_appD (d := some 92) elem_int rfl rfl (.tmp 89) (.tmp 91) rfl wr.heap.size rfl hO _ (.int .i64 x) rfl hC.cell rfl (by unfold maxLen; omega) (by omega) hB.size ?_
                            intro v9 w9 ho9 hg9 hs9
                            have hb9 : Below wr.heap.size wr w9 := Below.grown hB hg9 hB.size (fun g hg => (own_block hO hg).1)
                            refine hK.out _ _ ⟨HHD.out _ (grown_of_below hb9), ?_⟩
                            replace hM := hM.kept hg9 (hM.ne_own hO)
                            clear hK hg9 hs9 hB hO hC K'
                            simp only [Act.put, List.setIfInBounds_toArray, List.set_cons_zero, List.set_cons_succ]
                            refine ready1 (i := 9) (by kernel_rfl) ?_
                            refine wpOp_put (d := none) rfl rfl rfl _ _ _ (.inr rfl) hM law_tuple Try.underlying105 (by unfold maxLen; omega) rfl rfl rfl HKY2.out fun w10 hm10 hg10 => ⟨HHD.out _ (grown_and (grown_of_below hb9) hg10 (fun j hj => .inr hj)), ?_⟩
                            simp only [Act.put, List.setIfInBounds_toArray, List.set_cons_zero, List.set_cons_succ]
                            refine wpAnyH_done (by kernel_rfl) ?_ _
                            have HN9 := Lib.hid (HN.out.next hb9)
                            have HA9 := Lib.hid (HTW.out.next hb9)
                            have HN10 := Lib.hid (HN9.out.grown hg10 (fun e => hne1 (by injection e with e; exact e.symm)))
                            have HA10 := Lib.hid (HA9.out.grown hg10 (fun e => hne2 (by injection e with e; exact e.symm)))
                            have HX10 := Lib.hid ((HXR.out.next hb9).put hn10 HKU.out hM (HWD.out.below hb9) hm10 hg10 HYG.out HIN.out HMB.out (zs := zs ++ [(x : Int)]) (own_lo (by rw [List.map_append, List.length_append]; exact ho9) HXR.out.low) (by obtain ⟨g, cap, e, _⟩ := own_some ho9 (by omega); rw [e]; intro h; cases h))
                            have hl10 := HX10.out.list
                            rw [Dir.keys_len] at hl10
                            have HL10 := Lib.hid hl10
                            have hlow10 := HX10.out.low
                            have hl2 : lg2 < w10.heap.size := (own_block hl10 rfl).2
                            have ht10 := HA10.out.lt
                            clear hM hm10 hg10 ho9 hb9 hl10
                            have HD11 : Hid (∀ W, TB W wi.heap.size y → Calls Try.prog 76 #[.slice (some ⟨wi.heap.size, 0, none⟩) s 10, .int .i64 kind] W (RetQ (.bool (dirB kind y)) W)) := fun W h => directs_tup kind h HYG.out hn1 hn10 HK.out
                            have hs0 := fun W => slice_tup (b := wi.heap.size) hn10 W
                            go_wp2_with (first | (refine wpList_loadT rfl _ rfl wi.heap.size 0 y rfl HN10.out.range ?_) | (refine wpList_litT rfl _ rfl y rfl ?_) | (at_builtin; refine wpList_pushT rfl (.tmp 93) (.tmp 95) rfl w0.heap.size y rfl HL10.out rfl (by omega) hlow10 ?_; intro v11 w11 ho11 hg11 hs11; have HX11 := Lib.hid (HX10.out.pushList hg11 (by rw [Dir.keys_len]; exact ho11)); have HN11 := Lib.hid (HN10.out.grown hg11 (ne_block hlw)); have HA11 := Lib.hid (HA10.out.grown hg11 HNE.out); have HNE11 := Lib.hid (ne_block_new hs11 HNE.out ht10); obtain ⟨g11, c11, rfl, _⟩ := own_some ho11 (by omega); have z0 := below_cell HX11.out.below HQ0.out; have z1 := below_cell HX11.out.below HQ1.out; clear ho11 hg11 hs11))
                            have HD12 := Lib.hid (HD11.out _ HN11.out)
                            clear hs0 HX10 HN10 HA10 HL10 z0 z1
                            cases hdf : dirB kind y
                            · rw [hdf] at HD12
                              refine HD12.out.mono ?_
                              rintro e w12 ⟨rfl, hq12⟩
                              have HX12 := Lib.hid (HX11.out.next (hq12.below _))
                              by_cases h20 : 2000 ≤ U.length
                              · have hend := HEND.out _ _ (HSM.out HIN.out hdf h20)
                                have hZ : Z0 = [] := by rw [HZ0.out, hend]; rfl
                                have hC : c0 = 3 := by rw [HC0.out, hend]; rfl
                                subst hZ hC
                                have hbb := below_trans HW0.out HX12.out.below
                                clear hend hdf
                                go_wp2
                                go_ret2
                                exact ints2_nil _ hbb
                              · have HST : Hid (innerD xss s kind j T (x + 1) = .run (U ++ [(y, zs ++ [(x : Int)])])) := by unfold Hid; rw [HSX.out]; exact HSP.out HIN.out hdf (by omega)
                                have HA12 := Lib.hid (HA11.out.next (hq12.below _))
                                have HF : Hid (DInv s w0 w12 w0.heap.size mb (.slice (some ⟨g11, 0, none⟩) (U.length + 1) c11) (Dir.keys (U ++ [(y, zs ++ [(x : Int)])])) (U ++ [(y, zs ++ [(x : Int)])])) := by unfold Hid; rw [keys_snoc]; exact HX12.out
                                clear hdf HX12 hq12
                                go_wp2
                                go_roundw
                                case rel => exact ⟨x + 1, _, by omega, by go_num, HST.out, HF.out, HA12.out, HNE11.out⟩
                                case measure => simp [intOf]; omega
                            · rw [hdf] at HD12
                              have hend := HEND.out _ _ (HSF.out HIN.out hdf)
                              have hZ : Z0 = zs ++ [(x : Int)] := by rw [HZ0.out, hend]; rfl
                              have hC : c0 = 0 := by rw [HC0.out, hend]; rfl
                              subst hZ hC
                              refine HD12.out.mono ?_
                              rintro e w12 ⟨rfl, hq12⟩
                              have HX12 := Lib.hid (HX11.out.next (hq12.below _))
                              have HN12 := Lib.hid (HN11.out.next (hq12.below _))
                              obtain ⟨F2, hm2, hw2⟩ := HX12.out.words
                              obtain ⟨u2, hu2, ho2, _⟩ := hw2.word U.length (by rw [List.length_append]; simp)
                              have e2 : Dir.at (U ++ [(y, zs ++ [(x : Int)])]) U.length = (y, zs ++ [(x : Int)]) := by simp [Dir.at, List.getD_eq_getElem?_getD]
                              rw [e2] at hu2 ho2
                              have hlk := hm2.lookSome law_tuple Try.underlying105 (zero_ints w12) HKY2.out hu2
                              have HO2 := Lib.hid (own_lo ho2 HW0.out.size)
                              have hbb := below_trans HW0.out HX12.out.below
                              clear hend hdf hm2 hw2 hu2 ho2 e2 hq12
                              go_wp2_with (refine wpList_loadT rfl _ rfl wi.heap.size 0 y rfl HN12.out.range ?_)
                              go_ret2
                              exact ⟨_, rfl, HO2.out, hbb⟩
                        · refine wpOp_lit1 (d := some 91) rfl rfl rfl _ rfl (x : Int) rfl fun w' hb hC => ⟨HHD.out _ (grown_of_below (below_trans hB hb)), ?_⟩
                          replace hM := hM.below hb
                          replace hB := below_trans hB hb
                          simp only [Act.put, List.setIfInBounds_toArray, List.set_cons_zero, List.set_cons_succ]
                          refine ready1 (i := 4) (by kernel_rfl) ?_
                          refine wpOp_look (d := some 88) rfl rfl rfl _ _ rfl rfl rfl (hM.lookSome law_tuple Try.underlying105 (zero_ints _) HKA.out HFU.out) ⟨HHD.out _ (grown_of_below hB), ?_⟩
                          simp only [Act.put, List.setIfInBounds_toArray, List.set_cons_zero, List.set_cons_succ]
                          refine ready1 (i := 5) (by kernel_rfl) ?_
                          refine wpOp_stepS rfl fun K' hK => ?_
                          go_simp
                          go_at_call 64
                          refine (HCL.out _ hB).mono ?_
                          rintro e w8 ⟨v8, rfl, ho8, hb8⟩
                          refine hK.out _ _ ⟨HHD.out _ (grown_of_below (below_trans hB hb8)), ?_⟩
                          have hO := own_lo ho8 hB.size
                          replace hM := hM.below hb8
                          replace hC := hC.next hb8
                          replace hB := below_trans hB hb8
                          clear hK ho8 hb8 K'
                          try simp only [Act.put, List.setIfInBounds_toArray, List.set_cons_zero, List.set_cons_succ]
                          refine ready1 (i := 8) (by kernel_rfl) ?_
                          refine wpOp_stepS rfl fun K' hK => ?_
                          refine step_appD (d := some 92) elem_int rfl rfl (.tmp 89) (.tmp 91) rfl wr.heap.size rfl hO _ (.int .i64 x) rfl hC.cell rfl (by unfold maxLen; omega) (by omega) hB.size ?_
                          intro v9 w9 ho9 hg9 hs9
                          have hb9 : Below wr.heap.size wr w9 := Below.grown hB hg9 hB.size (fun g hg => (own_block hO hg).1)
                          refine hK.out _ _ ⟨HHD.out _ (grown_of_below hb9), ?_⟩
                          replace hM := hM.kept hg9 (hM.ne_own hO)
                          clear hK hg9 hs9 hB hO hC K'
                          simp only [Act.put, List.setIfInBounds_toArray, List.set_cons_zero, List.set_cons_succ]
                          refine ready1 (i := 9) (by kernel_rfl) ?_
                          refine wpOp_put (d := none) rfl rfl rfl _ _ _ (.inr rfl) hM law_tuple Try.underlying105 (by unfold maxLen; omega) rfl rfl rfl HKY2.out fun w10 hm10 hg10 => ⟨HHD.out _ (grown_and (grown_of_below hb9) hg10 (fun j hj => .inr hj)), ?_⟩
                          simp only [Act.put, List.setIfInBounds_toArray, List.set_cons_zero, List.set_cons_succ]
                          refine wpAnyH_done (by kernel_rfl) ?_ _
                          have HN9 := Lib.hid (HN.out.next hb9)
                          have HA9 := Lib.hid (HTW.out.next hb9)
                          have HN10 := Lib.hid (HN9.out.grown hg10 (fun e => hne1 (by injection e with e; exact e.symm)))
                          have HA10 := Lib.hid (HA9.out.grown hg10 (fun e => hne2 (by injection e with e; exact e.symm)))
                          have HX10 := Lib.hid ((HXR.out.next hb9).put hn10 HKU.out hM (HWD.out.below hb9) hm10 hg10 HYG.out HIN.out HMB.out (zs := zs ++ [(x : Int)]) (own_lo (by rw [List.map_append, List.length_append]; exact ho9) HXR.out.low) (by obtain ⟨g, cap, e, _⟩ := own_some ho9 (by omega); rw [e]; intro h; cases h))
                          have hl10 := HX10.out.list
                          rw [Dir.keys_len] at hl10
                          have HL10 := Lib.hid hl10
                          have hlow10 := HX10.out.low
                          have hl2 : lg2 < w10.heap.size := (own_block hl10 rfl).2
                          have ht10 := HA10.out.lt
                          clear hM hm10 hg10 ho9 hb9 hl10
                          have HD11 : Hid (∀ W, TB W wi.heap.size y → Calls Try.prog 76 #[.slice (some ⟨wi.heap.size, 0, none⟩) s 10, .int .i64 kind] W (RetQ (.bool (dirB kind y)) W)) := fun W h => directs_tup kind h HYG.out hn1 hn10 HK.out
                          have hs0 := fun W => slice_tup (b := wi.heap.size) hn10 W
                          go_wp2_with (first | (refine wpList_loadT rfl _ rfl wi.heap.size 0 y rfl HN10.out.range ?_) | (refine wpList_litT rfl _ rfl y rfl ?_) | (at_builtin; refine wpList_pushT rfl (.tmp 93) (.tmp 95) rfl w0.heap.size y rfl HL10.out rfl (by omega) hlow10 ?_; intro v11 w11 ho11 hg11 hs11; have HX11 := Lib.hid (HX10.out.pushList hg11 (by rw [Dir.keys_len]; exact ho11)); have HN11 := Lib.hid (HN10.out.grown hg11 (ne_block hlw)); have HA11 := Lib.hid (HA10.out.grown hg11 HNE.out); have HNE11 := Lib.hid (ne_block_new hs11 HNE.out ht10); obtain ⟨g11, c11, rfl, _⟩ := own_some ho11 (by omega); have z0 := below_cell HX11.out.below HQ0.out; have z1 := below_cell HX11.out.below HQ1.out; clear ho11 hg11 hs11))
                          have HD12 := Lib.hid (HD11.out _ HN11.out)
                          clear hs0 HX10 HN10 HA10 HL10 z0 z1
                          cases hdf : dirB kind y
                          · rw [hdf] at HD12
                            refine HD12.out.mono ?_
                            rintro e w12 ⟨rfl, hq12⟩
                            have HX12 := Lib.hid (HX11.out.next (hq12.below _))
                            by_cases h20 : 2000 ≤ U.length
                            · have hend := HEND.out _ _ (HSM.out HIN.out hdf h20)
                              have hZ : Z0 = [] := by rw [HZ0.out, hend]; rfl
                              have hC : c0 = 3 := by rw [HC0.out, hend]; rfl
                              subst hZ hC
                              have hbb := below_trans HW0.out HX12.out.below
                              clear hend hdf
                              go_wp2
                              go_ret2
                              exact ints2_nil _ hbb
                            · have HST : Hid (innerD xss s kind j T (x + 1) = .run (U ++ [(y, zs ++ [(x : Int)])])) := by unfold Hid; rw [HSX.out]; exact HSP.out HIN.out hdf (by omega)
                              have HA12 := Lib.hid (HA11.out.next (hq12.below _))
                              have HF : Hid (DInv s w0 w12 w0.heap.size mb (.slice (some ⟨g11, 0, none⟩) (U.length + 1) c11) (Dir.keys (U ++ [(y, zs ++ [(x : Int)])])) (U ++ [(y, zs ++ [(x : Int)])])) := by unfold Hid; rw [keys_snoc]; exact HX12.out
                              clear hdf HX12 hq12
                              go_wp2
                              go_roundw
                              case rel => exact ⟨x + 1, _, by omega, by go_num, HST.out, HF.out, HA12.out, HNE11.out⟩
                              case measure => simp [intOf]; omega
                          · rw [hdf] at HD12
                            have hend := HEND.out _ _ (HSF.out HIN.out hdf)
                            have hZ : Z0 = zs ++ [(x : Int)] := by rw [HZ0.out, hend]; rfl
                            have hC : c0 = 0 := by rw [HC0.out, hend]; rfl
                            subst hZ hC
                            refine HD12.out.mono ?_
                            rintro e w12 ⟨rfl, hq12⟩
                            have HX12 := Lib.hid (HX11.out.next (hq12.below _))
                            have HN12 := Lib.hid (HN11.out.next (hq12.below _))
                            obtain ⟨F2, hm2, hw2⟩ := HX12.out.words
                            obtain ⟨u2, hu2, ho2, _⟩ := hw2.word U.length (by rw [List.length_append]; simp)
                            have e2 : Dir.at (U ++ [(y, zs ++ [(x : Int)])]) U.length = (y, zs ++ [(x : Int)]) := by simp [Dir.at, List.getD_eq_getElem?_getD]
                            rw [e2] at hu2 ho2
                            have hlk := hm2.lookSome law_tuple Try.underlying105 (zero_ints w12) HKY2.out hu2
                            have HO2 := Lib.hid (own_lo ho2 HW0.out.size)
                            have hbb := below_trans HW0.out HX12.out.below
                            clear hend hdf hm2 hw2 hu2 ho2 e2 hq12
                            go_wp2_with (refine wpList_loadT rfl _ rfl wi.heap.size 0 y rfl HN12.out.range ?_)
                            go_ret2
                            exact ⟨_, rfl, HO2.out, hbb⟩
                · obtain rfl : x = xss.length := by omega
                  have HN : Hid (outerD xss k kind (j + 1) = .run U) := by unfold Hid; rw [outerD_succ HTO.out hlt]; exact HUI.out
                  clear hgx
                  go_wp2
                  go_roundw
                  case rel => exact ⟨j + 1, U, by omega, by go_num, HN.out, HX.out⟩
                  case measure => simp [intOf]; omega
            · have hend := endD_run HTO.out (by omega) (by omega)
              have hZ : Z0 = [] := by rw [HZ0.out, hend]; rfl
              have hC : c0 = 6 := by rw [HC0.out, hend]; rfl
              subst hZ hC
              have hbb := below_trans HW0.out HI.out.below
              clear hend hgt
              go_wp2
              go_ret2
              exact ints2_nil _ hbb
        · rw [hdf] at HDR
          have hZ := HZ0.out
          have hC := HC0.out
          rw [if_pos (by rw [← HY0.out, hdf])] at hZ hC
          subst hZ hC
          have HBB := Lib.hid (below_trans HB0.out (below_trans HB.out HI0.out.below))
          clear hdf HI0
          go_wp2_with fail
          refine HDR.out.mono ?_
          rintro e w5 ⟨rfl, hq5⟩
          have hb5 := below_trans HBB.out (hq5.below _)
          go_wp2
          go_ret2
          exact ints2_nil _ hb5
end Go.Proofs.Ytocdkeidjocmkaa
