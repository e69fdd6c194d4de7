/- ProductOf, of the reference and of the program. -/
import Derived.Test.YtkmaglifohffnaaGood
import Derived.Test.YtkmaglifohffnaaSpecOk
import Derived.Test.YtkmaglifohffnaaNew
import Derived.Test.YtkmaglifohffnaaStep
namespace Go.Proofs.Ytkmaglifohffnaa
set_option linter.unusedVariables false
set_option linter.unusedSimpArgs false
open Go.ChangeShapes Go.WideShapes Go.ChangeAt Go.RowKit

def prodRow (sb : Int) (ra rb : List Int) (s t : Nat) : List Int := ((List.range s).map fun i => (List.range rb.length).map fun k => ra.getD i 0 * sb + rb.getD k 0).flatten ++ (List.range t).map fun k => ra.getD s 0 * sb + rb.getD k 0
def prodCd (sa sb : Int) (xa xb : List (List Int)) : Int := if validB sa xa = true ∧ validB sb xb = true then (if xa.length = xb.length then (if sa * sb ≤ 10 then 0 else 3) else 2) else 1
def prodSt (sa sb : Int) (xa xb : List (List Int)) : Int := if prodCd sa sb xa xb = 0 then sa * sb else 0
def prodTo (sb : Int) (xa xb : List (List Int)) (k : Nat) : List (List Int) := (List.range k).map fun l => prodRow sb (xa.getD l []) (xb.getD l []) (xa.getD l []).length 0
def prodRows (sa sb : Int) (xa xb : List (List Int)) : List (List Int) := if prodCd sa sb xa xb = 0 then prodTo sb xa xb xa.length else []

theorem prodRow_next (sb : Int) (ra rb : List Int) (s t : Nat) : prodRow sb ra rb s t ++ [ra.getD s 0 * sb + rb.getD t 0] = prodRow sb ra rb s (t + 1) := by
  unfold prodRow
  rw [List.append_assoc, range_map_snoc (fun k => ra.getD s 0 * sb + rb.getD k 0)]
theorem prodRow_up (sb : Int) (ra rb : List Int) (s : Nat) : prodRow sb ra rb s rb.length = prodRow sb ra rb (s + 1) 0 := by
  unfold prodRow
  rw [List.range_succ, List.map_append, List.flatten_append]
  simp
theorem prodRow_len (sb : Int) (ra rb : List Int) (s t : Nat) : (prodRow sb ra rb s t).length = s * rb.length + t := by
  unfold prodRow
  rw [List.length_append, List.length_flatten, List.map_map]
  have : (List.length ∘ fun i => (List.range rb.length).map fun k => ra.getD i 0 * sb + rb.getD k 0) = fun _ => rb.length := by funext i; simp
  rw [this]
  simp
  induction s with
  | zero => simp
  | succ s ih => rw [List.range_succ, List.map_append, List.sum_append, ih, Nat.succ_mul]; simp
theorem prodRows_bulk (sa sb : Int) (xa xb : List (List Int)) : bulk2 (prodRows sa sb xa xb) ≤ 100000 := by
  unfold prodRows
  split
  · rename_i h
    have hv : validB sa xa = true ∧ validB sb xb = true ∧ xa.length = xb.length := by
      unfold prodCd at h
      split at h
      · rename_i h1
        split at h
        · rename_i h2; exact ⟨h1.1, h1.2, h2⟩
        · cases h
      · cases h
    obtain ⟨n, GA⟩ := good_of hv.1
    obtain ⟨m, GB⟩ := good_of hv.2.1
    have hl : ∀ l ∈ (prodTo sb xa xb xa.length).map List.length, l ≤ 100 := by
      intro l hl
      obtain ⟨r, hr, rfl⟩ := List.mem_map.1 hl
      obtain ⟨k, hk, rfl⟩ := List.mem_map.1 hr
      have hk' := List.mem_range.1 hk
      rw [prodRow_len, GA.row hk', GB.row (by omega)]
      have := Nat.mul_le_mul GA.hi GB.hi
      omega
    have hs : ∀ (l : List Nat), (∀ x ∈ l, x ≤ 100) → l.sum ≤ 100 * l.length := by
      intro l
      induction l with
      | nil => intro _; simp
      | cons a l ih => intro h; have h1 := h a (List.mem_cons_self ..); have h2 := ih fun x hx => h x (List.mem_cons_of_mem _ hx); simp; omega
    have h1 := hs _ hl
    have h2 : ((prodTo sb xa xb xa.length).map List.length).length = xa.length := by simp [prodTo]
    have h3 := GA.len3
    unfold bulk2
    rw [h2] at h1
    omega
  · simp [bulk2]
theorem prodTo_snoc (sb : Int) (xa xb : List (List Int)) (k : Nat) : prodTo sb xa xb k ++ [prodRow sb (xa.getD k []) (xb.getD k []) (xa.getD k []).length 0] = prodTo sb xa xb (k + 1) := range_map_snoc (fun l => prodRow sb (xa.getD l []) (xb.getD l []) (xa.getD l []).length 0) k

set_option maxRecDepth 100000 in
set_option maxHeartbeats 2000000 in
theorem specProduct_any (sa sb : Int) (va vb : Value) (xa xb : List (List Int)) (w : World) (ha : Rows2 w va xa) (hb : Rows2 w vb xb) :
    Calls Try.prog 16 #[.agg #[.int .i64 sa, va], .agg #[.int .i64 sb, vb]] w (NewAuto2 (prodSt sa sb xa xb) (prodRows sa sb xa xb) (prodCd sa sb xa xb) w) := by
  obtain ⟨aoa, ba, oa, ca, HA⟩ := ha.open
  obtain ⟨aob, bb, ob, cb, HB⟩ := hb.open
  have hva := HA.val
  have hvb := HB.val
  subst hva hvb
  have hma := HA.len
  have hmb := HB.len
  obtain ⟨W3, hW3⟩ : ∃ W3, W3 = ((w.alloc (.cells #[.int .i64 sa, .slice aoa xa.length ca] 26)).alloc (.cells #[.int .i64 sb, .slice aob xb.length cb] 26)).alloc (.cells #[.int .i64 0, .slice none 0 0] 26) := ⟨_, rfl⟩
  have b3 : Below w.heap.size w W3 := by subst hW3; exact below_alloc (below_alloc (below_alloc (Below.refl _ _) _) _) _
  have C1 := Lib.hid (fun W (hq : Qu W3 W) => l01Ok_any w.heap.size 0 sa _ xa W (hq.cell (by subst hW3; go_simp)) (hq.cell (by subst hW3; go_simp)) ((ha.kept b3).kept (hq.below _)))
  have C2 := Lib.hid (fun W (hq : Qu W3 W) => l01Ok_any (w.heap.size + 1) 0 sb _ xb W (hq.cell (by subst hW3; go_simp)) (hq.cell (by subst hW3; go_simp)) ((hb.kept b3).kept (hq.below _)))
  have e3 := Lib.hid hW3
  cases h1 : validB sa xa
  · rw [show prodSt sa sb xa xb = 0 by simp [prodSt, prodCd, h1], show prodRows sa sb xa xb = [] by simp [prodRows, prodCd, h1], show prodCd sa sb xa xb = 1 by simp [prodCd, h1]]
    rw [h1] at C1
    subst hW3
    clear h1 ha hb HA HB
    go_enter Try.func16, Try.ntmps16
    go_wp2_with fail
    refine (C1.out _ (Qu.refl _)).mono ?_
    rintro e w1 ⟨rfl, hq⟩
    obtain ⟨hc, hf⟩ := bcell (hq.below _)
    have hz : w.heap.size + 2 < w1.heap.size := by rw [hq.size]; simp
    go_wp2
    exact bodyPost_ret (v := .tuple #[.agg #[.int .i64 0, .slice none 0 0], .int .i64 1]) (by simp [results, Try.results16, go_sem, hc, hz]) rfl ⟨_, [], rfl, ownRows_nil _ _, below_set (below_set (below_trans b3 (hq.below _)) (by omega) _ _) (by omega) _ _⟩
  cases h2 : validB sb xb
  · rw [show prodSt sa sb xa xb = 0 by simp [prodSt, prodCd, h2], show prodRows sa sb xa xb = [] by simp [prodRows, prodCd, h2], show prodCd sa sb xa xb = 1 by simp [prodCd, h2]]
    rw [h1] at C1
    rw [h2] at C2
    subst hW3
    clear h1 h2 ha hb HA HB
    go_enter Try.func16, Try.ntmps16
    go_wp2_with fail
    refine (C1.out _ (Qu.refl _)).mono ?_
    rintro e w1 ⟨rfl, hq⟩
    go_wp2_with fail
    refine (C2.out _ hq).mono ?_
    rintro e w2 ⟨rfl, hq2⟩
    replace hq := hq.trans hq2
    clear hq2
    obtain ⟨hc, hf⟩ := bcell (hq.below _)
    have hz : w.heap.size + 2 < w2.heap.size := by rw [hq.size]; simp
    go_wp2
    exact bodyPost_ret (v := .tuple #[.agg #[.int .i64 0, .slice none 0 0], .int .i64 1]) (by simp [results, Try.results16, go_sem, hc, hz]) rfl ⟨_, [], rfl, ownRows_nil _ _, below_set (below_set (below_trans b3 (hq.below _)) (by omega) _ _) (by omega) _ _⟩
  obtain ⟨n, GA⟩ := good_of h1
  obtain ⟨m, GB⟩ := good_of h2
  have hln := GA.len1
  have hln3 := GA.len3
  have hlm := GB.len1
  have hlm3 := GB.len3
  by_cases h3 : ¬ xa.length = xb.length
  · rw [show prodSt sa sb xa xb = 0 by simp [prodSt, prodCd, h1, h2, h3], show prodRows sa sb xa xb = [] by simp [prodRows, prodCd, h1, h2, h3], show prodCd sa sb xa xb = 2 by simp [prodCd, h1, h2, h3]]
    rw [h1] at C1
    rw [h2] at C2
    subst hW3
    have hne : (((xa.length : Nat) : Int) != ((xb.length : Nat) : Int)) = true := by simp; omega
    clear h1 h2 h3 ha hb HA HB GA GB
    go_enter Try.func16, Try.ntmps16
    go_wp2_with fail
    refine (C1.out _ (Qu.refl _)).mono ?_
    rintro e w1 ⟨rfl, hq⟩
    go_wp2_with fail
    refine (C2.out _ hq).mono ?_
    rintro e w2 ⟨rfl, hq2⟩
    replace hq := hq.trans hq2
    clear hq2
    obtain ⟨hc, hf⟩ := bcell (hq.below _)
    have hz : w.heap.size + 2 < w2.heap.size := by rw [hq.size]; simp
    go_wp2
    exact bodyPost_ret (v := .tuple #[.agg #[.int .i64 0, .slice none 0 0], .int .i64 2]) (by simp [results, Try.results16, go_sem, hc, hz]) rfl ⟨_, [], rfl, ownRows_nil _ _, below_set (below_set (below_trans b3 (hq.below _)) (by omega) _ _) (by omega) _ _⟩
  replace h3 := Decidable.not_not.1 h3
  obtain ⟨rfl⟩ : sa = n := GA.st
  obtain ⟨rfl⟩ : sb = m := GB.st
  have hn := GA.hi
  have hm := GB.hi
  have hn1 := GA.lo
  have hm1 := GB.lo
  have hmul := mul_bd (p := n) (s := m) (by omega) (by omega) (by omega) (by omega)
  by_cases h4 : ¬ (n : Int) * m ≤ 10
  · rw [show prodSt n m xa xb = 0 by simp [prodSt, prodCd, h1, h2, h3, h4], show prodRows n m xa xb = [] by simp [prodRows, prodCd, h1, h2, h3, h4], show prodCd n m xa xb = 3 by simp [prodCd, h1, h2, h3, h4]]
    rw [h1] at C1
    rw [h2] at C2
    subst hW3
    have hne : (((xa.length : Nat) : Int) != ((xb.length : Nat) : Int)) = false := by simp; omega
    clear h1 h2 h3 ha hb HA HB GA GB
    go_enter Try.func16, Try.ntmps16
    go_wp2_with fail
    refine (C1.out _ (Qu.refl _)).mono ?_
    rintro e w1 ⟨rfl, hq⟩
    go_wp2_with fail
    refine (C2.out _ hq).mono ?_
    rintro e w2 ⟨rfl, hq2⟩
    replace hq := hq.trans hq2
    clear hq2
    obtain ⟨hc, hf⟩ := bcell (hq.below _)
    have hz : w.heap.size + 2 < w2.heap.size := by rw [hq.size]; simp
    go_wp2
    exact bodyPost_ret (v := .tuple #[.agg #[.int .i64 0, .slice none 0 0], .int .i64 3]) (by simp [results, Try.results16, go_sem, hc, hz]) rfl ⟨_, [], rfl, ownRows_nil _ _, below_set (below_set (below_trans b3 (hq.below _)) (by omega) _ _) (by omega) _ _⟩
  replace h4 := Decidable.not_not.1 h4
  rw [show prodSt n m xa xb = (n : Int) * m by simp [prodSt, prodCd, h1, h2, h3, h4], show prodRows n m xa xb = prodTo m xa xb xa.length by simp [prodRows, prodCd, h1, h2, h3, h4], show prodCd n m xa xb = 0 by simp [prodCd, h1, h2, h3, h4]]
  rw [h1] at C1
  rw [h2] at C2
  subst hW3
  have hne : (((xa.length : Nat) : Int) != ((xb.length : Nat) : Int)) = false := by simp; omega
  have HGA := Lib.hid GA
  have HGB := Lib.hid GB
  have H3 := Lib.hid h3
  clear h1 h2 h3 GA GB
  go_enter Try.func16, Try.ntmps16
  go_wp2_with fail
  refine (C1.out _ (Qu.refl _)).mono ?_
  rintro e w1 ⟨rfl, hq⟩
  go_wp2_with fail
  refine (C2.out _ hq).mono ?_
  rintro e w2 ⟨rfl, hq2⟩
  replace hq := hq.trans hq2
  clear hq2
  obtain ⟨hc, hf⟩ := bcell (hq.below _)
  have hz : w.heap.size + 2 < w2.heap.size := by rw [hq.size]; simp
  go_wp2
  have bw2 : Below w.heap.size w w2 := below_trans b3 (hq.below _)
  have p0 : w2.cell? ⟨w.heap.size, 0, none⟩ = some (.int .i64 n) := hq.cell (by go_simp)
  have p1 : w2.cell? ⟨w.heap.size, 1, none⟩ = some (.slice aoa xa.length ca) := hq.cell (by go_simp)
  have p2 : w2.cell? ⟨w.heap.size + 1, 0, none⟩ = some (.int .i64 m) := hq.cell (by go_simp)
  have p3 : w2.cell? ⟨w.heap.size + 1, 1, none⟩ = some (.slice aob xb.length cb) := hq.cell (by go_simp)
  have p4 : w2.cell? ⟨w.heap.size + 2, 0, none⟩ = some (.int .i64 0) := hq.cell (by go_simp)
  have p5 : w2.cell? ⟨w.heap.size + 2, 1, none⟩ = some (.slice none 0 0) := hq.cell (by go_simp)
  have g4 : w2.frozen? ⟨w.heap.size + 2, 0, none⟩ = false := by rw [hf _ _ (by simp)]; go_simp
  have g5 : w2.frozen? ⟨w.heap.size + 2, 1, none⟩ = false := by rw [hf _ _ (by simp)]; go_simp
  clear hc hf hq C1 C2 b3 e3 ha hb
  go_loopw [7] (fun l wr => ∃ k : Nat, k ≤ xa.length ∧ l = .int .i64 k ∧ Hid (OutAt wr w2.heap.size (w2.heap.size + 1) (n * m) (prodTo m xa xb k)) ∧ w2.heap.size < wr.heap.size ∧ Below w2.heap.size w2 wr) (fun l _ => xa.length - (intOf l).toNat)
  case atStart => exact ⟨0, Nat.zero_le _, rfl, ⟨.slice none 0 0, [], by go_simp, by go_simp, by go_simp, ownRows_nil _ _⟩, by simp, below_alloc (Below.refl _ _) _⟩
  case round =>
    obtain ⟨k, hk, rfl, HO, hzr, hb2⟩ := hrel
    obtain ⟨wo, rfl⟩ : ∃ wo : World, wo = wr := ⟨_, rfl⟩
    replace p0 := below_cell hb2 p0
    replace p1 := below_cell hb2 p1
    replace p2 := below_cell hb2 p2
    replace p3 := below_cell hb2 p3
    by_cases hlt : k < xa.length
    · obtain ⟨ra, da, hra⟩ := HA.cell k hlt
      obtain ⟨rb, db, hrb⟩ := HB.cell k (by rw [← H3.out]; exact hlt)
      have i1 := idx_of Try.underlying22 size1_ints (c := ca) HA.adr hlt .i64
      have i2 := idx_of Try.underlying22 size1_ints (c := cb) HB.adr (k := k) (by rw [← H3.out]; exact hlt) .i64
      have bwo := below_trans bw2 hb2
      replace da := below_cell bwo da
      replace db := below_cell bwo db
      replace hra := hra.kept bwo
      replace hrb := hrb.kept bwo
      obtain ⟨aoA, bA, oA, cA, KA⟩ := hra.open
      obtain ⟨aoB, bB, oB, cB, KB⟩ := hrb.open
      have hvA := KA.val
      have hvB := KB.val
      subst hvA hvB
      have hlA : (xa.getD k []).length = n := HGA.out.row hlt
      have hlB : (xb.getD k []).length = m := HGB.out.row (by rw [← H3.out]; exact hlt)
      have hvalA := Lib.hid (fun (s : Nat) (hs : s < n) => HGA.out.val hlt hs)
      have hvalB := Lib.hid (fun (s : Nat) (hs : s < m) => HGB.out.val (x := k) (by rw [← H3.out]; exact hlt) hs)
      have hto := Lib.hid (prodTo_snoc m xa xb k)
      obtain ⟨ya, hya⟩ : ∃ ya, ya = xa.getD k [] := ⟨_, rfl⟩
      obtain ⟨yb, hyb⟩ : ∃ yb, yb = xb.getD k [] := ⟨_, rfl⟩
      rw [← hya] at hlA hvalA KA hto
      rw [← hyb] at hlB hvalB KB hto
      rw [← hya] at da hra
      rw [← hyb] at db hrb
      subst hlA hlB
      clear hya hyb hra hrb
      have HE := Lib.hid (own_empty wo wo.heap.size (Nat.le_refl _) 2)
      go_wp2
      go_loopw [8, 9] (fun u s wr => ∃ i : Nat, i ≤ ya.length ∧ s = .int .i64 i ∧ Hid (wr.ownsRow wo.heap.size 2 1 u (prodRow yb.length ya yb i 0).length ((prodRow yb.length ya yb i 0).map (Value.int .i64))) ∧ Below wo.heap.size wo wr) (fun _ s _ => ya.length - (intOf s).toNat)
      case atStart => exact ⟨0, Nat.zero_le _, rfl, by simpa [Hid, prodRow] using HE.out, below_alloc (Below.refl _ _) _⟩
      case round =>
        obtain ⟨i, hi, rfl, HU, hbi⟩ := hrel
        obtain ⟨wi, rfl⟩ : ∃ wi : World, wi = wr := ⟨_, rfl⟩
        by_cases hlti : i < ya.length
        · have q0 := below_cell hbi p0
          have q1 := below_cell hbi p1
          have q2 := below_cell hbi p2
          have q3 := below_cell hbi p3
          have qa := below_cell hbi da
          have qb := below_cell hbi db
          go_wp2
          go_loopw [8, 10] (fun u t wr => ∃ j : Nat, j ≤ yb.length ∧ t = .int .i64 j ∧ Hid (wr.ownsRow wo.heap.size 2 1 u (prodRow yb.length ya yb i j).length ((prodRow yb.length ya yb i j).map (Value.int .i64))) ∧ Below wo.heap.size wo wr) (fun _ t _ => yb.length - (intOf t).toNat)
          case atStart => exact ⟨0, Nat.zero_le _, rfl, HU.out, hbi⟩
          case round =>
            obtain ⟨j, hj, rfl, HV, hbj⟩ := hrel
            clear q0 q1 q2 q3 qa qb
            have q0 := below_cell hbj p0
            have q1 := below_cell hbj p1
            have q2 := below_cell hbj p2
            have q3 := below_cell hbj p3
            have qa := below_cell hbj da
            have qb := below_cell hbj db
            by_cases hltj : j < yb.length
            · obtain ⟨z1, hz1, d1⟩ := KA.at hlti
              obtain ⟨z2, hz2, d2⟩ := KB.at hltj
              have e1 := below_cell hbj d1
              have e2 := below_cell hbj d2
              have i3 := idx_of Try.underlying69 size1_int (c := cA) KA.adr hlti .i64
              have i4 := idx_of Try.underlying69 size1_int (c := cB) KB.adr hltj .i64
              have n1 := hvalA.out i hlti
              have n2 := hvalB.out j hltj
              rw [hz1] at n1
              rw [hz2] at n2
              have HN := Lib.hid (prodRow_next yb.length ya yb i j)
              rw [hz1, hz2] at HN
              have hpl := prodRow_len yb.length ya yb i j
              have hmm := mul_bd (p := z1) (s := (yb.length : Int)) (by omega) (by omega) (by omega) (by omega)
              clear hz1 hz2
              have hil : i * yb.length ≤ 10 * 10 := Nat.mul_le_mul (by omega) (by omega)
              have hpl2 : (prodRow yb.length ya yb i j).length ≤ 1000 := by omega
              have s1 := IntWalk.i64_in (z1 * (yb.length : Int)) (by omega)
              have s2 := IntWalk.i64_in (z1 * (yb.length : Int) + z2) (by omega)
              clear hpl hil
              have lb0 := block_lt_of_cell p0
              have lb2 := block_lt_of_cell p2
              have lba := block_lt_of_cell da
              have lbb := block_lt_of_cell db
              have lb1 := block_lt_of_cell d1
              have lbd := block_lt_of_cell d2
              go_wp2
              go_region_held3 (fun w' => Below wo.heap.size wo w' ∧ ∀ b o, b < wo.heap.size → w'.cell? ⟨b, o, none⟩ = wo.cell? ⟨b, o, none⟩) (first | assumption | exact held_from hbj | exact held_from (hbj.alloc hbj.size _) | exact held_grown hbj HV.out (Nat.le_refl _) hgr)
                ((refine step_push elem_int rfl (.tmp 59) (.tmp 80) rfl wo.heap.size rfl HV.out _ rfl rfl (by unfold maxLen; omega) (by omega) hbj.size ?_; intro v' w6 hown' hgr hs))
              have hb6 : Below wo.heap.size wo w6 := Below.grown hbj hgr hbj.size (fun g hg => (own_block HV.out hg).1)
              have HOW := Lib.hid hown'
              clear hown' hgr hs
              go_wp2
              go_roundw
              case rel => exact ⟨j + 1, by omega, by go_num, by
                have h := HOW.out
                rw [← HN.out, List.map_append, List.length_append]
                exact h, hb6⟩
              case measure => simp [intOf]; omega
            · go_wp2
              go_roundw
              case rel => exact ⟨i + 1, by omega, by go_num, by obtain rfl : j = yb.length := by omega
                                                                rw [← prodRow_up]; exact HV.out, hbj⟩
              case measure => simp [intOf]; omega
        · obtain rfl : i = ya.length := by omega
          have q0 := below_cell hbi p0
          obtain ⟨au, mu, cu, rfl, HMu⟩ := own_shape HU.out
          obtain ⟨v, rs, c0, c1, f1, ho⟩ := HO.out
          have k1 := below_cell hbi c1
          have k0 := below_cell hbi c0
          have g1 := (hbi.frozen (p := ⟨w2.heap.size, 1, none⟩) (block_lt_of_cell c1)).trans f1
          have hoi := ho.below hbi
          have hlr := hoi.len
          have hap := ho.apart_new HU.out
          have hpl : (prodTo yb.length xa xb k).length = k := by simp [prodTo]
          have hzi : w2.heap.size < wi.heap.size := by have := hbi.size; omega
          rw [hpl] at hlr
          have HOI := Lib.hid hoi
          have HAP := Lib.hid hap
          have HPL := Lib.hid hpl
          have HC0 := Lib.hid c0
          clear hoi hap ho hpl c0 c1 f1
          go_wp2_with (at_builtin; refine wpList_push elem_ints rfl (.tmp 83) (.tmp 85) rfl (w2.heap.size + 1) rfl HOI.out.outer _ rfl rfl (by rw [HPL.out]; unfold maxLen; omega) (by rw [HPL.out]; omega) (by omega) ?_; intro v' w6 hown' hgr hs; obtain ⟨av', mv', cv', rfl, HMv'⟩ := own_shape hown'; have r1 := grown_cell hgr HOI.out.outer (by omega) k1; have r2 := grown_frozen hgr HOI.out.outer (by omega) k1 g1)
          have hout := OutAt.pushed HOI.out k0 k1 g1 (by omega) hgr hown' HU.out (by have := hbi.size; omega) HAP.out
          rw [hto.out] at hout
          have HOUT := Lib.hid hout
          have hzk := block_lt_of_cell r1
          have hb7 := fun u => (Below.grown (hb2.trans (hbi.mono (by omega))) hgr (by have := hbi.size; omega) (fun g hg => by have := own_block HOI.out.outer hg; omega)).setCell (p := ⟨w2.heap.size, 1, none⟩) (Nat.le_refl _) u
          have HB7 := Lib.hid hb7
          clear hout hown' hgr hb7
          go_wp2
          go_roundw
          case rel => exact ⟨k + 1, by omega, by go_num, HOUT.out, by simpa using hzk, HB7.out _⟩
          case measure => simp [intOf]; omega
    · obtain rfl : k = xa.length := by omega
      obtain ⟨v, rs, c0, c1, f1, ho⟩ := HO.out
      obtain ⟨av, mv, cv, rfl, HMv⟩ := own_shape ho.outer
      have HOO := Lib.hid ho
      replace g4 := (hb2.frozen (p := ⟨w.heap.size + 2, 0, none⟩) (by simpa using hz)).trans g4
      replace g5 := (hb2.frozen (p := ⟨w.heap.size + 2, 1, none⟩) (by simpa using hz)).trans g5
      replace p4 := below_cell hb2 p4
      replace p5 := below_cell hb2 p5
      have hbw := below_trans bw2 hb2
      clear ho HO f1
      go_wp2
      refine bodyPost_ret (v := .tuple #[.agg #[.int .i64 ((n : Int) * m), .slice av mv cv], .int .i64 0]) (by simp [results, Try.results16, go_sem, p4, p5]) rfl ⟨_, rs, rfl, ?_, ?_⟩
      · exact ((HOO.out.mono (by omega)).set_below2 HOO.out (by omega) _ _).set_below2 (HOO.out.set_below (by omega) _ _) (by omega) _ _
      · exact below_set (below_set hbw (by omega) _ _) (by omega) _ _

set_option maxRecDepth 100000 in
set_option maxHeartbeats 2000000 in
theorem implProduct_any (sa sb : Int) (va vb : Value) (xa xb : List (List Int)) (w : World) (ha : Rows2 w va xa) (hb : Rows2 w vb xb) :
    Calls Try.prog 18 #[.agg #[.int .i64 sa, va], .agg #[.int .i64 sb, vb]] w (NewAuto2 (prodSt sa sb xa xb) (prodRows sa sb xa xb) (prodCd sa sb xa xb) w) := by
  obtain ⟨aoa, ba, oa, ca, HA⟩ := ha.open
  obtain ⟨aob, bb, ob, cb, HB⟩ := hb.open
  have hva := HA.val
  have hvb := HB.val
  subst hva hvb
  have hma := HA.len
  have hmb := HB.len
  obtain ⟨W3, hW3⟩ : ∃ W3, W3 = ((w.alloc (.cells #[.int .i64 sa, .slice aoa xa.length ca] 26)).alloc (.cells #[.int .i64 sb, .slice aob xb.length cb] 26)).alloc (.cells #[.int .i64 0, .slice none 0 0] 26) := ⟨_, rfl⟩
  have b3 : Below w.heap.size w W3 := by subst hW3; exact below_alloc (below_alloc (below_alloc (Below.refl _ _) _) _) _
  have C1 := Lib.hid (fun W (hq : Below W3.heap.size W3 W) => validAuto_any sa _ xa W ((ha.kept b3).kept hq))
  have C2 := Lib.hid (fun W (hq : Below W3.heap.size W3 W) => validAuto_any sb _ xb W ((hb.kept b3).kept hq))
  cases h1 : validB sa xa
  · rw [show prodSt sa sb xa xb = 0 by simp [prodSt, prodCd, h1], show prodRows sa sb xa xb = [] by simp [prodRows, prodCd, h1], show prodCd sa sb xa xb = 1 by simp [prodCd, h1]]
    rw [h1] at C1
    subst hW3
    clear h1 ha hb HA HB
    go_enter Try.func18, Try.ntmps18
    go_wp2_with fail
    refine (C1.out _ (Below.refl _ _)).mono ?_
    rintro e w1 ⟨rfl, hq⟩
    obtain ⟨hc, hf⟩ := bcell hq
    have hz : w.heap.size + 2 < w1.heap.size := by have := hq.size; simp at this; omega
    go_wp2
    exact bodyPost_ret (v := .tuple #[.agg #[.int .i64 0, .slice none 0 0], .int .i64 1]) (by simp [results, Try.results18, go_sem, hc, hz]) rfl ⟨_, [], rfl, ownRows_nil _ _, below_set (below_set (below_trans b3 hq) (by omega) _ _) (by omega) _ _⟩
  cases h2 : validB sb xb
  · rw [show prodSt sa sb xa xb = 0 by simp [prodSt, prodCd, h2], show prodRows sa sb xa xb = [] by simp [prodRows, prodCd, h2], show prodCd sa sb xa xb = 1 by simp [prodCd, h2]]
    rw [h1] at C1
    rw [h2] at C2
    subst hW3
    clear h1 h2 ha hb HA HB
    go_enter Try.func18, Try.ntmps18
    go_wp2_with fail
    refine (C1.out _ (Below.refl _ _)).mono ?_
    rintro e w1 ⟨rfl, hq⟩
    obtain ⟨hc, hf⟩ := bcell hq
    have hz : w.heap.size + 2 < w1.heap.size := by have := hq.size; simp at this; omega
    go_wp2_with fail
    refine (C2.out _ hq).mono ?_
    rintro e w2 ⟨rfl, hq2⟩
    clear hc hf
    replace hq := below_trans hq hq2
    clear hq2
    obtain ⟨hc, hf⟩ := bcell hq
    replace hz : w.heap.size + 2 < w2.heap.size := by have := hq.size; simp at this; omega
    go_wp2
    exact bodyPost_ret (v := .tuple #[.agg #[.int .i64 0, .slice none 0 0], .int .i64 1]) (by simp [results, Try.results18, go_sem, hc, hz]) rfl ⟨_, [], rfl, ownRows_nil _ _, below_set (below_set (below_trans b3 hq) (by omega) _ _) (by omega) _ _⟩
  obtain ⟨n, GA⟩ := good_of h1
  obtain ⟨m, GB⟩ := good_of h2
  have hln := GA.len1
  have hln3 := GA.len3
  have hlm := GB.len1
  have hlm3 := GB.len3
  by_cases h3 : ¬ xa.length = xb.length
  · rw [show prodSt sa sb xa xb = 0 by simp [prodSt, prodCd, h1, h2, h3], show prodRows sa sb xa xb = [] by simp [prodRows, prodCd, h1, h2, h3], show prodCd sa sb xa xb = 2 by simp [prodCd, h1, h2, h3]]
    rw [h1] at C1
    rw [h2] at C2
    subst hW3
    have hne : (((xa.length : Nat) : Int) != ((xb.length : Nat) : Int)) = true := by simp; omega
    clear h1 h2 h3 ha hb HA HB GA GB
    go_enter Try.func18, Try.ntmps18
    go_wp2_with fail
    refine (C1.out _ (Below.refl _ _)).mono ?_
    rintro e w1 ⟨rfl, hq⟩
    obtain ⟨hc, hf⟩ := bcell hq
    have hz : w.heap.size + 2 < w1.heap.size := by have := hq.size; simp at this; omega
    go_wp2_with fail
    refine (C2.out _ hq).mono ?_
    rintro e w2 ⟨rfl, hq2⟩
    clear hc hf
    replace hq := below_trans hq hq2
    clear hq2
    obtain ⟨hc, hf⟩ := bcell hq
    replace hz : w.heap.size + 2 < w2.heap.size := by have := hq.size; simp at this; omega
    have p0 : w2.cell? ⟨w.heap.size, 0, none⟩ = some (.int .i64 sa) := below_cell hq (by go_simp)
    have p1 : w2.cell? ⟨w.heap.size, 1, none⟩ = some (.slice aoa xa.length ca) := below_cell hq (by go_simp)
    have p2 : w2.cell? ⟨w.heap.size + 1, 0, none⟩ = some (.int .i64 sb) := below_cell hq (by go_simp)
    have p3 : w2.cell? ⟨w.heap.size + 1, 1, none⟩ = some (.slice aob xb.length cb) := below_cell hq (by go_simp)
    have p4 : w2.cell? ⟨w.heap.size + 2, 0, none⟩ = some (.int .i64 0) := below_cell hq (by go_simp)
    have p5 : w2.cell? ⟨w.heap.size + 2, 1, none⟩ = some (.slice none 0 0) := below_cell hq (by go_simp)
    have g4 : w2.frozen? ⟨w.heap.size + 2, 0, none⟩ = false := by rw [hf _ _ (by simp)]; go_simp
    have g5 : w2.frozen? ⟨w.heap.size + 2, 1, none⟩ = false := by rw [hf _ _ (by simp)]; go_simp
    have hz0 : w.heap.size < w2.heap.size := by omega
    have hz1 : w.heap.size + 1 < w2.heap.size := by omega
    clear hc hf
    go_wp2
    go_region_held3 (fun w' => Below w2.heap.size w2 w' ∧ ∀ b o, b < w2.heap.size → w'.cell? ⟨b, o, none⟩ = w2.cell? ⟨b, o, none⟩) (first | exact held_start | assumption | exact held_next (by assumption) (by assumption))
      (first | (go_simp; go_at_call 70; refine (lettersAuto_any _ _ _ _ _ (by first | exact hma | exact hmb)).mono ?_; rintro e w8 ⟨rfl, hb8⟩))
    rename Below w2.heap.size w2 w8 ∧ _ => hS
    obtain ⟨hw9, hcs⟩ := hS
    clear hcs
    obtain ⟨w3, hw3⟩ : ∃ w3, w3 = w8 := ⟨_, rfl⟩
    subst hw3
    replace p0 := below_cell hw9 p0
    replace p1 := below_cell hw9 p1
    replace p2 := below_cell hw9 p2
    replace p3 := below_cell hw9 p3
    have g4' := (hw9.frozen (p := ⟨w.heap.size + 2, 0, none⟩) (block_lt_of_cell p4)).trans g4
    have g5' := (hw9.frozen (p := ⟨w.heap.size + 2, 1, none⟩) (block_lt_of_cell p5)).trans g5
    clear g4 g5
    replace p4 := below_cell hw9 p4
    replace p5 := below_cell hw9 p5
    have hb9 := below_trans (below_trans b3 hq) hw9
    have hz9 : w.heap.size + 2 < w3.heap.size := by have := hw9.size; omega
    go_wp2
    exact bodyPost_ret (v := .tuple #[.agg #[.int .i64 0, .slice none 0 0], .int .i64 2]) (by simp [results, Try.results18, go_sem, p4, p5]) rfl ⟨_, [], rfl, ownRows_nil _ _, below_set (below_set hb9 (by omega) _ _) (by omega) _ _⟩
  replace h3 := Decidable.not_not.1 h3
  obtain ⟨rfl⟩ : sa = n := GA.st
  obtain ⟨rfl⟩ : sb = m := GB.st
  have hn := GA.hi
  have hm := GB.hi
  have hn1 := GA.lo
  have hm1 := GB.lo
  have hmul := mul_bd (p := n) (s := m) (by omega) (by omega) (by omega) (by omega)
  by_cases h4 : ¬ (n : Int) * m ≤ 10
  · rw [show prodSt n m xa xb = 0 by simp [prodSt, prodCd, h1, h2, h3, h4], show prodRows n m xa xb = [] by simp [prodRows, prodCd, h1, h2, h3, h4], show prodCd n m xa xb = 3 by simp [prodCd, h1, h2, h3, h4]]
    rw [h1] at C1
    rw [h2] at C2
    subst hW3
    have hne : (((xa.length : Nat) : Int) != ((xb.length : Nat) : Int)) = false := by simp; omega
    clear h1 h2 h3 ha hb HA HB GA GB
    go_enter Try.func18, Try.ntmps18
    go_wp2_with fail
    refine (C1.out _ (Below.refl _ _)).mono ?_
    rintro e w1 ⟨rfl, hq⟩
    obtain ⟨hc, hf⟩ := bcell hq
    have hz : w.heap.size + 2 < w1.heap.size := by have := hq.size; simp at this; omega
    go_wp2_with fail
    refine (C2.out _ hq).mono ?_
    rintro e w2 ⟨rfl, hq2⟩
    clear hc hf
    replace hq := below_trans hq hq2
    clear hq2
    obtain ⟨hc, hf⟩ := bcell hq
    replace hz : w.heap.size + 2 < w2.heap.size := by have := hq.size; simp at this; omega
    have p0 : w2.cell? ⟨w.heap.size, 0, none⟩ = some (.int .i64 n) := below_cell hq (by go_simp)
    have p1 : w2.cell? ⟨w.heap.size, 1, none⟩ = some (.slice aoa xa.length ca) := below_cell hq (by go_simp)
    have p2 : w2.cell? ⟨w.heap.size + 1, 0, none⟩ = some (.int .i64 m) := below_cell hq (by go_simp)
    have p3 : w2.cell? ⟨w.heap.size + 1, 1, none⟩ = some (.slice aob xb.length cb) := below_cell hq (by go_simp)
    have p4 : w2.cell? ⟨w.heap.size + 2, 0, none⟩ = some (.int .i64 0) := below_cell hq (by go_simp)
    have p5 : w2.cell? ⟨w.heap.size + 2, 1, none⟩ = some (.slice none 0 0) := below_cell hq (by go_simp)
    have g4 : w2.frozen? ⟨w.heap.size + 2, 0, none⟩ = false := by rw [hf _ _ (by simp)]; go_simp
    have g5 : w2.frozen? ⟨w.heap.size + 2, 1, none⟩ = false := by rw [hf _ _ (by simp)]; go_simp
    have hz0 : w.heap.size < w2.heap.size := by omega
    have hz1 : w.heap.size + 1 < w2.heap.size := by omega
    clear hc hf
    go_wp2
    go_region_held3 (fun w' => Below w2.heap.size w2 w' ∧ ∀ b o, b < w2.heap.size → w'.cell? ⟨b, o, none⟩ = w2.cell? ⟨b, o, none⟩) (first | exact held_start | assumption | exact held_next (by assumption) (by assumption))
      (first | (go_simp; go_at_call 70; refine (lettersAuto_any _ _ _ _ _ (by first | exact hma | exact hmb)).mono ?_; rintro e w8 ⟨rfl, hb8⟩))
    rename Below w2.heap.size w2 w8 ∧ _ => hS
    obtain ⟨hw9, hcs⟩ := hS
    clear hcs
    obtain ⟨w3, hw3⟩ : ∃ w3, w3 = w8 := ⟨_, rfl⟩
    subst hw3
    replace p0 := below_cell hw9 p0
    replace p1 := below_cell hw9 p1
    replace p2 := below_cell hw9 p2
    replace p3 := below_cell hw9 p3
    have g4' := (hw9.frozen (p := ⟨w.heap.size + 2, 0, none⟩) (block_lt_of_cell p4)).trans g4
    have g5' := (hw9.frozen (p := ⟨w.heap.size + 2, 1, none⟩) (block_lt_of_cell p5)).trans g5
    clear g4 g5
    replace p4 := below_cell hw9 p4
    replace p5 := below_cell hw9 p5
    have hb9 := below_trans (below_trans b3 hq) hw9
    have hz9 : w.heap.size + 2 < w3.heap.size := by have := hw9.size; omega
    go_wp2
    exact bodyPost_ret (v := .tuple #[.agg #[.int .i64 0, .slice none 0 0], .int .i64 3]) (by simp [results, Try.results18, go_sem, p4, p5]) rfl ⟨_, [], rfl, ownRows_nil _ _, below_set (below_set hb9 (by omega) _ _) (by omega) _ _⟩
  replace h4 := Decidable.not_not.1 h4
  rw [show prodSt n m xa xb = (n : Int) * m by simp [prodSt, prodCd, h1, h2, h3, h4], show prodRows n m xa xb = prodTo m xa xb xa.length by simp [prodRows, prodCd, h1, h2, h3, h4], show prodCd n m xa xb = 0 by simp [prodCd, h1, h2, h3, h4]]
  rw [h1] at C1
  rw [h2] at C2
  subst hW3
  have hne : (((xa.length : Nat) : Int) != ((xb.length : Nat) : Int)) = false := by simp; omega
  have HGA := Lib.hid GA
  have HGB := Lib.hid GB
  have H3 := Lib.hid h3
  clear h1 h2 h3 GA GB
  go_enter Try.func18, Try.ntmps18
  go_wp2_with fail
  refine (C1.out _ (Below.refl _ _)).mono ?_
  rintro e w1 ⟨rfl, hq⟩
  obtain ⟨hc, hf⟩ := bcell hq
  have hz : w.heap.size + 2 < w1.heap.size := by have := hq.size; simp at this; omega
  go_wp2_with fail
  refine (C2.out _ hq).mono ?_
  rintro e w2 ⟨rfl, hq2⟩
  clear hc hf
  replace hq := below_trans hq hq2
  clear hq2
  obtain ⟨hc, hf⟩ := bcell hq
  replace hz : w.heap.size + 2 < w2.heap.size := by have := hq.size; simp at this; omega
  have p0 : w2.cell? ⟨w.heap.size, 0, none⟩ = some (.int .i64 n) := below_cell hq (by go_simp)
  have p1 : w2.cell? ⟨w.heap.size, 1, none⟩ = some (.slice aoa xa.length ca) := below_cell hq (by go_simp)
  have p2 : w2.cell? ⟨w.heap.size + 1, 0, none⟩ = some (.int .i64 m) := below_cell hq (by go_simp)
  have p3 : w2.cell? ⟨w.heap.size + 1, 1, none⟩ = some (.slice aob xb.length cb) := below_cell hq (by go_simp)
  have p4 : w2.cell? ⟨w.heap.size + 2, 0, none⟩ = some (.int .i64 0) := below_cell hq (by go_simp)
  have p5 : w2.cell? ⟨w.heap.size + 2, 1, none⟩ = some (.slice none 0 0) := below_cell hq (by go_simp)
  have g4 : w2.frozen? ⟨w.heap.size + 2, 0, none⟩ = false := by rw [hf _ _ (by simp)]; go_simp
  have g5 : w2.frozen? ⟨w.heap.size + 2, 1, none⟩ = false := by rw [hf _ _ (by simp)]; go_simp
  have hz0 : w.heap.size < w2.heap.size := by omega
  have hz1 : w.heap.size + 1 < w2.heap.size := by omega
  clear hc hf
  go_wp2
  go_region_held3 (fun w' => Below w2.heap.size w2 w' ∧ ∀ b o, b < w2.heap.size → w'.cell? ⟨b, o, none⟩ = w2.cell? ⟨b, o, none⟩) (first | exact held_start | assumption | exact held_next (by assumption) (by assumption))
    (first | (go_simp; go_at_call 70; refine (lettersAuto_any _ _ _ _ _ (by first | exact hma | exact hmb)).mono ?_; rintro e w8 ⟨rfl, hb8⟩))
  rename Below w2.heap.size w2 w8 ∧ _ => hS
  obtain ⟨hw9, hcs⟩ := hS
  clear hcs
  obtain ⟨w3, hw3⟩ : ∃ w3, w3 = w8 := ⟨_, rfl⟩
  subst hw3
  replace p0 := below_cell hw9 p0
  replace p1 := below_cell hw9 p1
  replace p2 := below_cell hw9 p2
  replace p3 := below_cell hw9 p3
  have g4' := (hw9.frozen (p := ⟨w.heap.size + 2, 0, none⟩) (block_lt_of_cell p4)).trans g4
  have g5' := (hw9.frozen (p := ⟨w.heap.size + 2, 1, none⟩) (block_lt_of_cell p5)).trans g5
  clear g4 g5
  replace p4 := below_cell hw9 p4
  replace p5 := below_cell hw9 p5
  have hb9 := below_trans (below_trans b3 hq) hw9
  have hz9 : w.heap.size + 2 < w3.heap.size := by have := hw9.size; omega
  have hz2 : w.heap.size < w3.heap.size := by omega
  have hz3 : w.heap.size + 1 < w3.heap.size := by omega
  clear hq hw9
  go_wp2
  have bw2 := hb9
  clear hb9 C1 C2 b3 ha hb
  go_loopw [45] (fun l wr => ∃ k : Nat, k ≤ xa.length ∧ l = .int .i64 k ∧ Hid (OutAt wr w3.heap.size (w3.heap.size + 1) (n * m) (prodTo m xa xb k)) ∧ w3.heap.size < wr.heap.size ∧ Below w3.heap.size w3 wr) (fun l _ => xa.length - (intOf l).toNat)
  case atStart => exact ⟨0, Nat.zero_le _, rfl, ⟨.slice none 0 0, [], by go_simp, by go_simp, by go_simp, ownRows_nil _ _⟩, by simp, below_alloc (Below.refl _ _) _⟩
  case round =>
    obtain ⟨k, hk, rfl, HO, hzr, hb2⟩ := hrel
    obtain ⟨wo, rfl⟩ : ∃ wo : World, wo = wr := ⟨_, rfl⟩
    replace p0 := below_cell hb2 p0
    replace p1 := below_cell hb2 p1
    replace p2 := below_cell hb2 p2
    replace p3 := below_cell hb2 p3
    by_cases hlt : k < xa.length
    · obtain ⟨ra, da, hra⟩ := HA.cell k hlt
      obtain ⟨rb, db, hrb⟩ := HB.cell k (by rw [← H3.out]; exact hlt)
      have i1 := idx_of Try.underlying22 size1_ints (c := ca) HA.adr hlt .i64
      have i2 := idx_of Try.underlying22 size1_ints (c := cb) HB.adr (k := k) (by rw [← H3.out]; exact hlt) .i64
      have bwo := below_trans bw2 hb2
      replace da := below_cell bwo da
      replace db := below_cell bwo db
      replace hra := hra.kept bwo
      replace hrb := hrb.kept bwo
      have lb0 := block_lt_of_cell p0
      have lb2 := block_lt_of_cell p2
      obtain ⟨aoA, bA, oA, cA, KA⟩ := hra.open
      obtain ⟨aoB, bB, oB, cB, KB⟩ := hrb.open
      have hvA := KA.val
      have hvB := KB.val
      subst hvA hvB
      have hlA : (xa.getD k []).length = n := HGA.out.row hlt
      have hlB : (xb.getD k []).length = m := HGB.out.row (by rw [← H3.out]; exact hlt)
      have hvalA := Lib.hid (fun (s : Nat) (hs : s < n) => HGA.out.val hlt hs)
      have hvalB := Lib.hid (fun (s : Nat) (hs : s < m) => HGB.out.val (x := k) (by rw [← H3.out]; exact hlt) hs)
      have hto := Lib.hid (prodTo_snoc m xa xb k)
      obtain ⟨ya, hya⟩ : ∃ ya, ya = xa.getD k [] := ⟨_, rfl⟩
      obtain ⟨yb, hyb⟩ : ∃ yb, yb = xb.getD k [] := ⟨_, rfl⟩
      rw [← hya] at hlA hvalA KA hto
      rw [← hyb] at hlB hvalB KB hto
      rw [← hya] at da hra
      rw [← hyb] at db hrb
      subst hlA hlB
      clear hya hyb hra hrb
      have HE := Lib.hid (own_empty wo wo.heap.size (Nat.le_refl _) 2)
      go_wp2
      go_loopw [8, 51] (fun u s wr => ∃ i : Nat, i ≤ ya.length ∧ s = .int .i64 i ∧ Hid (wr.ownsRow wo.heap.size 2 1 u (prodRow yb.length ya yb i 0).length ((prodRow yb.length ya yb i 0).map (Value.int .i64))) ∧ Below wo.heap.size wo wr) (fun _ s _ => ya.length - (intOf s).toNat)
      case atStart => exact ⟨0, Nat.zero_le _, rfl, by simpa [Hid, prodRow] using HE.out, below_alloc (Below.refl _ _) _⟩
      case round =>
        obtain ⟨i, hi, rfl, HU, hbi⟩ := hrel
        obtain ⟨wi, rfl⟩ : ∃ wi : World, wi = wr := ⟨_, rfl⟩
        by_cases hlti : i < ya.length
        · have q0 := below_cell hbi p0
          have q1 := below_cell hbi p1
          have q2 := below_cell hbi p2
          have q3 := below_cell hbi p3
          have qa := below_cell hbi da
          have qb := below_cell hbi db
          go_wp2
          go_loopw [8, 56] (fun u t wr => ∃ j : Nat, j ≤ yb.length ∧ t = .int .i64 j ∧ Hid (wr.ownsRow wo.heap.size 2 1 u (prodRow yb.length ya yb i j).length ((prodRow yb.length ya yb i j).map (Value.int .i64))) ∧ Below wo.heap.size wo wr) (fun _ t _ => yb.length - (intOf t).toNat)
          case atStart => exact ⟨0, Nat.zero_le _, rfl, HU.out, hbi⟩
          case round =>
            obtain ⟨j, hj, rfl, HV, hbj⟩ := hrel
            clear q0 q1 q2 q3 qa qb
            have q0 := below_cell hbj p0
            have q1 := below_cell hbj p1
            have q2 := below_cell hbj p2
            have q3 := below_cell hbj p3
            have qa := below_cell hbj da
            have qb := below_cell hbj db
            by_cases hltj : j < yb.length
            · obtain ⟨z1, hz1, d1⟩ := KA.at hlti
              obtain ⟨z2, hz2, d2⟩ := KB.at hltj
              have e1 := below_cell hbj d1
              have e2 := below_cell hbj d2
              have i3 := idx_of Try.underlying69 size1_int (c := cA) KA.adr hlti .i64
              have i4 := idx_of Try.underlying69 size1_int (c := cB) KB.adr hltj .i64
              have n1 := hvalA.out i hlti
              have n2 := hvalB.out j hltj
              rw [hz1] at n1
              rw [hz2] at n2
              have HN := Lib.hid (prodRow_next yb.length ya yb i j)
              rw [hz1, hz2] at HN
              have hpl := prodRow_len yb.length ya yb i j
              have hmm := mul_bd (p := z1) (s := (yb.length : Int)) (by omega) (by omega) (by omega) (by omega)
              clear hz1 hz2
              have hil : i * yb.length ≤ 10 * 10 := Nat.mul_le_mul (by omega) (by omega)
              have hpl2 : (prodRow yb.length ya yb i j).length ≤ 1000 := by omega
              have s1 := IntWalk.i64_in (z1 * (yb.length : Int)) (by omega)
              have s2 := IntWalk.i64_in (z1 * (yb.length : Int) + z2) (by omega)
              clear hpl hil
              have lb0 := block_lt_of_cell p0
              have lb2 := block_lt_of_cell p2
              have lba := block_lt_of_cell da
              have lbb := block_lt_of_cell db
              have lb1 := block_lt_of_cell d1
              have lbd := block_lt_of_cell d2
              go_wp2
              go_region_held3 (fun w' => Below wo.heap.size wo w' ∧ ∀ b o, b < wo.heap.size → w'.cell? ⟨b, o, none⟩ = wo.cell? ⟨b, o, none⟩) (first | assumption | exact held_from hbj | exact held_from (hbj.alloc hbj.size _) | exact held_grown hbj HV.out (Nat.le_refl _) hgr)
                ((refine step_push elem_int rfl (.tmp 59) (.tmp 80) rfl wo.heap.size rfl HV.out _ rfl rfl (by unfold maxLen; omega) (by omega) hbj.size ?_; intro v' w6 hown' hgr hs))
              have hb6 : Below wo.heap.size wo w6 := Below.grown hbj hgr hbj.size (fun g hg => (own_block HV.out hg).1)
              have HOW := Lib.hid hown'
              clear hown' hgr hs
              go_wp2
              go_roundw
              case rel => exact ⟨j + 1, by omega, by go_num, by
                have h := HOW.out
                rw [← HN.out, List.map_append, List.length_append]
                exact h, hb6⟩
              case measure => simp [intOf]; omega
            · go_wp2
              go_roundw
              case rel => exact ⟨i + 1, by omega, by go_num, by obtain rfl : j = yb.length := by omega
                                                                rw [← prodRow_up]; exact HV.out, hbj⟩
              case measure => simp [intOf]; omega
        · obtain rfl : i = ya.length := by omega
          have q0 := below_cell hbi p0
          obtain ⟨au, mu, cu, rfl, HMu⟩ := own_shape HU.out
          obtain ⟨v, rs, c0, c1, f1, ho⟩ := HO.out
          have k1 := below_cell hbi c1
          have k0 := below_cell hbi c0
          have g1 := (hbi.frozen (p := ⟨w3.heap.size, 1, none⟩) (block_lt_of_cell c1)).trans f1
          have hoi := ho.below hbi
          have hlr := hoi.len
          have hap := ho.apart_new HU.out
          have hpl : (prodTo yb.length xa xb k).length = k := by simp [prodTo]
          have hzi : w3.heap.size < wi.heap.size := by have := hbi.size; omega
          rw [hpl] at hlr
          have HOI := Lib.hid hoi
          have HAP := Lib.hid hap
          have HPL := Lib.hid hpl
          have HC0 := Lib.hid c0
          clear hoi hap ho hpl c0 c1 f1
          go_wp2_with (at_builtin; refine wpList_push elem_ints rfl (.tmp 85) (.tmp 87) rfl (w3.heap.size + 1) rfl HOI.out.outer _ rfl rfl (by rw [HPL.out]; unfold maxLen; omega) (by rw [HPL.out]; omega) (by omega) ?_; intro v' w6 hown' hgr hs; obtain ⟨av', mv', cv', rfl, HMv'⟩ := own_shape hown'; have r1 := grown_cell hgr HOI.out.outer (by omega) k1; have r2 := grown_frozen hgr HOI.out.outer (by omega) k1 g1)
          have hout := OutAt.pushed HOI.out k0 k1 g1 (by omega) hgr hown' HU.out (by have := hbi.size; omega) HAP.out
          rw [hto.out] at hout
          have HOUT := Lib.hid hout
          have hzk := block_lt_of_cell r1
          have hb7 := fun u => (Below.grown (hb2.trans (hbi.mono (by omega))) hgr (by have := hbi.size; omega) (fun g hg => by have := own_block HOI.out.outer hg; omega)).setCell (p := ⟨w3.heap.size, 1, none⟩) (Nat.le_refl _) u
          have HB7 := Lib.hid hb7
          clear hout hown' hgr hb7
          go_wp2
          go_roundw
          case rel => exact ⟨k + 1, by omega, by go_num, HOUT.out, by simpa using hzk, HB7.out _⟩
          case measure => simp [intOf]; omega
    · obtain rfl : k = xa.length := by omega
      obtain ⟨v, rs, c0, c1, f1, ho⟩ := HO.out
      obtain ⟨av, mv, cv, rfl, HMv⟩ := own_shape ho.outer
      have HOO := Lib.hid ho
      replace g4' := (hb2.frozen (p := ⟨w.heap.size + 2, 0, none⟩) (by simpa using hz9)).trans g4'
      replace g5' := (hb2.frozen (p := ⟨w.heap.size + 2, 1, none⟩) (by simpa using hz9)).trans g5'
      replace p4 := below_cell hb2 p4
      replace p5 := below_cell hb2 p5
      have hbw := below_trans bw2 hb2
      clear ho HO f1
      go_wp2
      refine bodyPost_ret (v := .tuple #[.agg #[.int .i64 ((n : Int) * m), .slice av mv cv], .int .i64 0]) (by simp [results, Try.results18, go_sem, p4, p5]) rfl ⟨_, rs, rfl, ?_, ?_⟩
      · exact ((HOO.out.mono (by omega)).set_below2 HOO.out (by omega) _ _).set_below2 (HOO.out.set_below (by omega) _ _) (by omega) _ _
      · exact below_set (below_set hbw (by omega) _ _) (by omega) _ _

end Go.Proofs.Ytkmaglifohffnaa
