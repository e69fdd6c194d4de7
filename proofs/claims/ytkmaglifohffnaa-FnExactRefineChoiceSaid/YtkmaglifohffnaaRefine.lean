/- RefineChoice, of the reference and of the program. -/
import Derived.Test.YtkmaglifohffnaaValidChoice
import Derived.Test.YtkmaglifohffnaaSpecChoice
import Derived.Test.YtkmaglifohffnaaBits
import Derived.Test.YtkmaglifohffnaaStep
namespace Go.Proofs.Ytkmaglifohffnaa
set_option linter.unusedVariables false
set_option linter.unusedSimpArgs false
open Go.ChangeShapes Go.WideShapes Go.ChangeAt Go.RowKit

structure GoodC (st : Int) (n : Nat) (xss : List (List (List Int))) : Prop where
  st : st = n
  lo : 1 ≤ n
  hi : n ≤ 10
  len1 : 1 ≤ xss.length
  len3 : xss.length ≤ 3
  row : ∀ k, k < xss.length → (xss.getD k []).length = n
  val : ∀ k s, k < xss.length → s < n → risesB ((xss.getD k []).getD s []) 0 ((n : Int) - 1) = true

theorem goodC_of {st : Int} {xss : List (List (List Int))} (h : validC st xss = true) : ∃ n : Nat, GoodC st n xss := by
  unfold validC at h
  rw [Bool.and_eq_true, Bool.and_eq_true] at h
  obtain ⟨h1, h2, h3⟩ := h
  have h1' := inB_true.1 h1
  have h2' := inB_true.1 h2
  have hr : ∀ k, k < xss.length → ((xss.getD k []).length : Int) = st ∧ setsB st (xss.getD k []) = true := fun k hk => by
    unfold rowsC at h3
    have := List.all_eq_true.1 h3 (xss.getD k []) (getD_mem hk _)
    rw [Bool.and_eq_true] at this
    exact ⟨of_decide_eq_true this.1, this.2⟩
  refine ⟨st.toNat, by omega, by omega, by omega, by omega, by omega, fun k hk => by have := (hr k hk).1; omega, fun k s hk hs => ?_⟩
  obtain ⟨a, b⟩ := hr k hk
  unfold setsB at b
  rw [show ((st.toNat : Nat) : Int) = st by omega]
  exact List.all_eq_true.1 b _ (getD_mem (by omega) _)
theorem rises_in {zs : List Int} {lo hi : Int} (h : risesB zs lo hi = true) : ∀ z ∈ zs, lo ≤ z ∧ z ≤ hi := by
  intro z hz
  obtain ⟨k, hk, rfl⟩ := List.getElem_of_mem hz
  unfold risesB at h
  have := List.all_eq_true.1 h k (by simpa using hk)
  unfold riseAt at this
  rw [Bool.and_eq_true] at this
  have := inB_true.1 this.1
  simpa [List.getD_eq_getElem?_getD, hk] using this
theorem GoodC.set {st : Int} {n : Nat} {xss : List (List (List Int))} (h : GoodC st n xss) {k s : Nat} (hk : k < xss.length) (hs : s < n) : ∀ z ∈ (xss.getD k []).getD s [], 0 ≤ z ∧ z < 10 := fun z hz => by
  have := rises_in (h.val k s hk hs) z hz
  have := h.st
  have := h.hi
  omega
theorem bits10 {zs : List Int} (h : ∀ z ∈ zs, 0 ≤ z ∧ z < 10) : bitsOf zs < 1024 := bitsOf_lt (n := 10) fun z hz => by have := h z hz; omega

/-- what is in a and not in b -/
def lessB (a b : Nat) : Nat := (BitVec.ofNat 64 a &&& ~~~ BitVec.ofNat 64 b).toNat
theorem lessB_lt {a b : Nat} (h : a < 1024) : lessB a b < 1024 := by
  unfold lessB
  rw [BitVec.toNat_and, BitVec.toNat_ofNat]
  exact Nat.lt_of_le_of_lt Nat.and_le_left (by omega)
theorem less_u64 {a b : Nat} (ha : a < 1024) : bits .andNot .u64 (a : Int) (b : Int) = ((lessB a b : Nat) : Int) := by
  have h := lessB_lt (b := b) ha
  have e : bits .andNot .u64 (a : Int) (b : Int) = IntKind.u64.wrap ((lessB a b : Nat) : Int) := by rfl
  rw [e, wrap_u64_in _ (by omega) (by omega)]
theorem less_i64 {a b : Nat} (ha : a < 1024) : bits .andNot .i64 (a : Int) (b : Int) = ((lessB a b : Nat) : Int) := by
  have h := lessB_lt (b := b) ha
  have e : bits .andNot .i64 (a : Int) (b : Int) = IntKind.i64.wrap ((lessB a b : Nat) : Int) := by rfl
  rw [e, wrap_i64_in _ (by omega) (by omega)]
theorem lessU_ne {a b : Nat} (ha : a < 1024) : (bits .andNot .u64 (a : Int) (b : Int) != 0) = !(lessB a b == 0) := by
  rw [less_u64 ha, Bool.eq_iff_iff]; simp
theorem lessI_ne {a b : Nat} (ha : a < 1024) : (bits .andNot .i64 (a : Int) (b : Int) != 0) = !(lessB a b == 0) := by
  rw [less_i64 ha, Bool.eq_iff_iff]; simp

def subAt (xa xb : List (List (List Int))) (k s : Nat) : Bool := lessB (bitsOf ((xa.getD k []).getD s [])) (bitsOf ((xb.getD k []).getD s [])) == 0
def subRow (xa xb : List (List (List Int))) (k : Nat) : Bool := (List.range (xa.getD k []).length).all (subAt xa xb k)
def subAll (xa xb : List (List (List Int))) : Bool := (List.range xa.length).all (subRow xa xb)
def refCd (sa sb : Int) (xa xb : List (List (List Int))) : Int := if validC sa xa = true ∧ validC sb xb = true then (if sa = sb ∧ xa.length = xb.length then 0 else 2) else 1
def refOk (sa sb : Int) (xa xb : List (List (List Int))) : Bool := if refCd sa sb xa xb = 0 then subAll xa xb else false
theorem subRow_no {xa xb : List (List (List Int))} {k s : Nat} (hs : s < (xa.getD k []).length) (h : subAt xa xb k s = false) : subRow xa xb k = false := by
  unfold subRow
  rw [List.all_eq_false]
  exact ⟨s, by simpa using hs, by simp [h]⟩
theorem subRow_yes {xa xb : List (List (List Int))} {k : Nat} (h : ∀ s, s < (xa.getD k []).length → subAt xa xb k s = true) : subRow xa xb k = true := by
  unfold subRow; rw [List.all_eq_true]; intro s hs; exact h s (by simpa using hs)
theorem subAll_no {xa xb : List (List (List Int))} {k : Nat} (hs : k < xa.length) (h : subRow xa xb k = false) : subAll xa xb = false := by
  unfold subAll
  rw [List.all_eq_false]
  exact ⟨k, by simpa using hs, by simp [h]⟩
theorem subAll_yes {xa xb : List (List (List Int))} (h : ∀ s, s < xa.length → subRow xa xb s = true) : subAll xa xb = true := by
  unfold subAll; rw [List.all_eq_true]; intro s hs; exact h s (by simpa using hs)

theorem quiet_bits (u : Value) (zs : List Int) (W : World) (h : Ints W u zs) (hz : ∀ z ∈ zs, 0 ≤ z ∧ z < 10) (n : Nat) :
    Calls Try.prog 73 #[u] (W.drewN n) fun e w' => e = .returned (.int .i64 (bitsOf zs : Int)) ∧ W.drewN n = w' := l02Bits_any u zs _ (h.drewN n) hz
theorem quiet_flock (u : Value) (zs : List Int) (W : World) (h : Ints W u zs) (hz : ∀ z ∈ zs, 0 ≤ z ∧ z < 10) (n : Nat) :
    Calls Try.prog 77 #[u] (W.drewN n) fun e w' => e = .returned (.int .u64 (bitsOf zs : Int)) ∧ W.drewN n = w' := flockOf_any u zs _ (h.drewN n) hz

set_option maxRecDepth 100000 in
set_option maxHeartbeats 2000000 in
theorem specRefine_any (sa sb : Int) (va vb : Value) (xa xb : List (List (List Int))) (w : World) (ha : Rows3 w va xa) (hb : Rows3 w vb xb) :
    Calls Try.prog 23 #[.agg #[.int .i64 sa, va], .agg #[.int .i64 sb, vb]] w (RetB (.tuple #[.bool (refOk sa sb xa xb), .int .i64 (refCd sa sb xa xb)]) w) := by
  obtain ⟨aoa, ba, oa, ca, HA⟩ := ha.open
  obtain ⟨aob, bb, ob, cb, HB⟩ := hb.open
  have hva := HA.val
  have hvb := HB.val
  subst hva hvb
  have hma := HA.len
  have hmb := HB.len
  obtain ⟨W3, hW3⟩ : ∃ W3, W3 = (w.alloc (.cells #[.int .i64 sa, .slice aoa xa.length ca] 39)).alloc (.cells #[.int .i64 sb, .slice aob xb.length cb] 39) := ⟨_, rfl⟩
  have b3 : Below w.heap.size w W3 := by subst hW3; exact below_alloc (below_alloc (Below.refl _ _) _) _
  have p0 : W3.cell? ⟨w.heap.size, 0, none⟩ = some (.int .i64 sa) := by subst hW3; go_simp
  have p1 : W3.cell? ⟨w.heap.size, 1, none⟩ = some (.slice aoa xa.length ca) := by subst hW3; go_simp
  have p2 : W3.cell? ⟨w.heap.size + 1, 0, none⟩ = some (.int .i64 sb) := by subst hW3; go_simp
  have p3 : W3.cell? ⟨w.heap.size + 1, 1, none⟩ = some (.slice aob xb.length cb) := by subst hW3; go_simp
  have C1 := Lib.hid (fun W (hq : Qu W3 W) => l04Choices_any w.heap.size 0 sa _ xa W (hq.cell p0) (hq.cell p1) ((ha.kept b3).kept (hq.below _)))
  have C2 := Lib.hid (fun W (hq : Qu W3 W) => l04Choices_any (w.heap.size + 1) 0 sb _ xb W (hq.cell p2) (hq.cell p3) ((hb.kept b3).kept (hq.below _)))
  cases h1 : validC sa xa
  · rw [show refOk sa sb xa xb = false by simp [refOk, refCd, h1], show refCd sa sb xa xb = 1 by simp [refCd, h1]]
    rw [h1] at C1
    subst hW3
    clear h1 ha hb HA HB
    go_enter Try.func23, Try.ntmps23
    go_wp2_with fail
    refine (C1.out _ (Qu.refl _)).mono ?_
    rintro e w1 ⟨rfl, hq⟩
    go_wp2
    go_ret2
    exact ⟨rfl, below_trans b3 (hq.below _)⟩
  cases h2 : validC sb xb
  · rw [show refOk sa sb xa xb = false by simp [refOk, refCd, h2], show refCd sa sb xa xb = 1 by simp [refCd, h2]]
    rw [h1] at C1
    rw [h2] at C2
    subst hW3
    clear h1 h2 ha hb HA HB
    go_enter Try.func23, Try.ntmps23
    go_wp2_with fail
    refine (C1.out _ (Qu.refl _)).mono ?_
    rintro e w1 ⟨rfl, hq⟩
    go_wp2_with fail
    refine (C2.out _ hq).mono ?_
    rintro e w2 ⟨rfl, hq2⟩
    replace hq := hq.trans hq2
    go_wp2
    go_ret2
    exact ⟨rfl, below_trans b3 (hq.below _)⟩
  obtain ⟨n, GA⟩ := goodC_of h1
  obtain ⟨m, GB⟩ := goodC_of h2
  rw [h1] at C1
  rw [h2] at C2
  by_cases h3 : ¬ (sa = sb ∧ xa.length = xb.length)
  · rw [show refOk sa sb xa xb = false by simp [refOk, refCd, h1, h2, h3], show refCd sa sb xa xb = 2 by simp [refCd, h1, h2, h3]]
    by_cases h4 : sa = sb
    · have hne1 : (sa != sb) = false := by simp [h4]
      have hne2 : (((xa.length : Nat) : Int) != ((xb.length : Nat) : Int)) = true := by
        have : xa.length ≠ xb.length := fun h => h3 ⟨h4, h⟩
        simp; omega
      have H4 := Lib.hid h4
      subst hW3
      clear h1 h2 h3 h4 ha hb HA HB GA GB
      go_enter Try.func23, Try.ntmps23
      go_wp2_with fail
      refine (C1.out _ (Qu.refl _)).mono ?_
      rintro e w1 ⟨rfl, hq⟩
      go_wp2_with fail
      refine (C2.out _ hq).mono ?_
      rintro e w2 ⟨rfl, hq2⟩
      replace hq := hq.trans hq2
      replace p0 := hq.cell p0
      replace p1 := hq.cell p1
      replace p2 := hq.cell p2
      replace p3 := hq.cell p3
      go_wp2
      go_ret2
      exact ⟨rfl, below_trans b3 (hq.below _)⟩
    · have hne1 : (sa != sb) = true := by simp [h4]
      subst hW3
      clear h1 h2 h3 h4 ha hb HA HB GA GB
      go_enter Try.func23, Try.ntmps23
      go_wp2_with fail
      refine (C1.out _ (Qu.refl _)).mono ?_
      rintro e w1 ⟨rfl, hq⟩
      go_wp2_with fail
      refine (C2.out _ hq).mono ?_
      rintro e w2 ⟨rfl, hq2⟩
      replace hq := hq.trans hq2
      replace p0 := hq.cell p0
      replace p1 := hq.cell p1
      replace p2 := hq.cell p2
      replace p3 := hq.cell p3
      go_wp2
      go_ret2
      exact ⟨rfl, below_trans b3 (hq.below _)⟩
  replace h3 := Decidable.not_not.1 h3
  have hcd0 : refCd sa sb xa xb = 0 := by unfold refCd; rw [if_pos ⟨h1, h2⟩, if_pos h3]
  rw [show refOk sa sb xa xb = subAll xa xb by unfold refOk; rw [if_pos hcd0], hcd0]
  obtain ⟨rfl, h4⟩ := h3
  have hmn : m = n := by have := GA.st; have := GB.st; omega
  subst hmn
  have hne1 : (sa != sa) = false := by simp
  have hne2 : (((xa.length : Nat) : Int) != ((xb.length : Nat) : Int)) = false := by simp; omega
  have H4 := Lib.hid h4
  have HGA := Lib.hid GA
  have HGB := Lib.hid GB
  have hm10 := GA.hi
  have h4' : xa.length ≤ xb.length := by omega
  subst hW3
  clear h1 h2 h4 GA GB hcd0
  go_enter Try.func23, Try.ntmps23
  go_wp2_with fail
  refine (C1.out _ (Qu.refl _)).mono ?_
  rintro e w1 ⟨rfl, hq⟩
  go_wp2_with fail
  refine (C2.out _ hq).mono ?_
  rintro e w2 ⟨rfl, hq2⟩
  replace hq := hq.trans hq2
  replace p0 := hq.cell p0
  replace p1 := hq.cell p1
  replace p2 := hq.cell p2
  replace p3 := hq.cell p3
  have bw : Below w.heap.size w w2 := below_trans b3 (hq.below _)
  clear hq hq2 C1 C2
  go_wp2
  go_loopw [6, 7] (fun i _ wr => ∃ k : Nat, k ≤ xa.length ∧ i = .int .i64 k ∧ Hid (∀ j, j < k → subRow xa xb j = true) ∧ Qu w2 wr) (fun i _ _ => xa.length - (intOf i).toNat)
  case atStart => exact ⟨0, Nat.zero_le _, rfl, fun j hj => absurd hj (by omega), Qu.refl _⟩
  case round =>
    obtain ⟨k, hk, rfl, hall, hq⟩ := hrel
    obtain ⟨wo, rfl⟩ : ∃ wo : World, wo = wr := ⟨_, rfl⟩
    replace p1 := hq.cell p1
    replace p3 := hq.cell p3
    have bwo := below_trans bw (hq.below _)
    by_cases hlt : k < xa.length
    · have i1 := idx_of Try.underlying33 size1_rows (c := ca) HA.adr hlt .i64
      have i2 := idx_of Try.underlying33 size1_rows (c := cb) HB.adr (show k < xb.length by omega) .i64
      obtain ⟨ra, d1, hra⟩ := HA.cell k hlt
      obtain ⟨rb, d2, hrb⟩ := HB.cell k (by omega)
      replace d1 := below_cell bwo d1
      replace d2 := below_cell bwo d2
      replace hra := hra.kept bwo
      replace hrb := hrb.kept bwo
      obtain ⟨ao2, q2, o2, c2, H2⟩ := hra.open
      obtain ⟨ao3, q3, o3, c3, H3⟩ := hrb.open
      have hv2 := H2.val
      have hv3 := H3.val
      subst hv2 hv3
      have hm2 := H2.len
      have hm3 := H3.len
      have hl2 := HGA.out.row k hlt
      have hl3 := HGB.out.row k (by omega)
      have A2 := H2.adr
      have A3 := H3.adr
      rw [hl2] at A2 d1 hm2
      rw [hl3] at A3 d2 hm3
      have HL2 := Lib.hid hl2
      clear hl2 hl3 hra hrb
      go_wp2
      go_loopw [7] (fun i wr => ∃ s : Nat, s ≤ m ∧ i = .int .i64 s ∧ Hid (∀ j, j < s → subAt xa xb k j = true) ∧ Qu wo wr) (fun i _ => m - (intOf i).toNat)
      case atStart => exact ⟨0, Nat.zero_le _, rfl, fun j hj => absurd hj (by omega), Qu.refl _⟩
      case round =>
        obtain ⟨s, hs, rfl, hin, hq2⟩ := hrel
        replace p1 := hq2.cell p1
        replace p3 := hq2.cell p3
        replace d1 := hq2.cell d1
        replace d2 := hq2.cell d2
        have hq3 := Lib.hid (hq.trans hq2)
        by_cases hlt2 : s < m
        · have i3 := idx_of Try.underlying22 size1_ints (c := c2) A2 hlt2 .i64
          have i4 := idx_of Try.underlying22 size1_ints (c := c3) A3 hlt2 .i64
          obtain ⟨r5, d5, hr5⟩ := H2.cell s (by rw [HL2.out]; exact hlt2)
          obtain ⟨r6, d6, hr6⟩ := H3.cell s (by rw [HGB.out.row k (by omega)]; exact hlt2)
          replace d5 := hq2.cell d5
          replace d6 := hq2.cell d6
          have g5 := HGA.out.set hlt hlt2
          have g6 := HGB.out.set (show k < xb.length by omega) hlt2
          have HBA := Lib.hid (quiet_bits r5 _ wr (hq2.ints hr5) g5)
          have HBB := Lib.hid (quiet_bits r6 _ wr (hq2.ints hr6) g6)
          have hne := lessI_ne (b := bitsOf ((xb.getD k []).getD s [])) (bits10 g5)
          have HSUB : Hid (subAt xa xb k s = (lessB (bitsOf ((xa.getD k []).getD s [])) (bitsOf ((xb.getD k []).getD s [])) == 0)) := rfl
          have HNO := Lib.hid (fun h => subRow_no (xa := xa) (xb := xb) (k := k) (s := s) (by rw [HL2.out]; exact hlt2) h)
          generalize bitsOf ((xa.getD k []).getD s []) = fa at HBA hne HSUB
          generalize bitsOf ((xb.getD k []).getD s []) = fb at HBB hne HSUB
          clear g5 g6 hr5 hr6
          cases hL : (lessB fa fb == 0)
          · rw [hL] at hne HSUB
            have HF := Lib.hid (subAll_no hlt (HNO.out HSUB.out))
            clear hL HNO HSUB
            go_wp2
            go_quiet ((go_at_call 73; first | (with_reducible exact Calls.quiet_of_same' (HBA.out _)) | (with_reducible exact Calls.quiet_of_same' (HBB.out _))))
            go_wp2
            go_ret2
            rw [HF.out]
            exact ⟨rfl, below_drewN' (below_trans bw (hq3.out.below _)) _⟩
          · rw [hL] at hne HSUB
            clear hL HNO
            go_wp2
            go_quiet ((go_at_call 73; first | (with_reducible exact Calls.quiet_of_same' (HBA.out _)) | (with_reducible exact Calls.quiet_of_same' (HBB.out _))))
            go_wp2
            go_roundw
            case rel => exact ⟨s + 1, by omega, by go_num, fun j hj => by
              rcases Nat.lt_or_ge j s with h | h
              · exact hin.out j h
              · obtain rfl : j = s := by omega
                exact HSUB.out, hq2.drewN _⟩
            case measure => simp [intOf]; omega
        · obtain rfl : s = m := by omega
          have HY := Lib.hid (subRow_yes (xa := xa) (xb := xb) (k := k) (by rw [HL2.out]; exact hin.out))
          go_wp2
          go_roundw
          case rel => exact ⟨k + 1, by omega, by go_num, fun j hj => by
            rcases Nat.lt_or_ge j k with h | h
            · exact hall.out j h
            · obtain rfl : j = k := by omega
              exact HY.out, hq3.out⟩
          case measure => simp [intOf]; omega
    · obtain rfl : k = xa.length := by omega
      have HY := Lib.hid (subAll_yes hall.out)
      go_wp2
      go_ret2
      rw [HY.out]
      exact ⟨rfl, bwo⟩

set_option maxRecDepth 100000 in
set_option maxHeartbeats 2000000 in
theorem implRefine_any (sa sb : Int) (va vb : Value) (xa xb : List (List (List Int))) (w : World) (ha : Rows3 w va xa) (hb : Rows3 w vb xb) :
    Calls Try.prog 25 #[.agg #[.int .i64 sa, va], .agg #[.int .i64 sb, vb]] w (RetB (.tuple #[.bool (refOk sa sb xa xb), .int .i64 (refCd sa sb xa xb)]) w) := by
  obtain ⟨aoa, ba, oa, ca, HA⟩ := ha.open
  obtain ⟨aob, bb, ob, cb, HB⟩ := hb.open
  have hva := HA.val
  have hvb := HB.val
  subst hva hvb
  have hma := HA.len
  have hmb := HB.len
  obtain ⟨W3, hW3⟩ : ∃ W3, W3 = (w.alloc (.cells #[.int .i64 sa, .slice aoa xa.length ca] 39)).alloc (.cells #[.int .i64 sb, .slice aob xb.length cb] 39) := ⟨_, rfl⟩
  have b3 : Below w.heap.size w W3 := by subst hW3; exact below_alloc (below_alloc (Below.refl _ _) _) _
  have p0 : W3.cell? ⟨w.heap.size, 0, none⟩ = some (.int .i64 sa) := by subst hW3; go_simp
  have p1 : W3.cell? ⟨w.heap.size, 1, none⟩ = some (.slice aoa xa.length ca) := by subst hW3; go_simp
  have p2 : W3.cell? ⟨w.heap.size + 1, 0, none⟩ = some (.int .i64 sb) := by subst hW3; go_simp
  have p3 : W3.cell? ⟨w.heap.size + 1, 1, none⟩ = some (.slice aob xb.length cb) := by subst hW3; go_simp
  have C1 := Lib.hid (fun W (hW : Below w.heap.size w W) => validChoice_any sa _ xa W (ha.kept hW))
  have C2 := Lib.hid (fun W (hW : Below w.heap.size w W) => validChoice_any sb _ xb W (hb.kept hW))
  cases h1 : validC sa xa
  · rw [show refOk sa sb xa xb = false by simp [refOk, refCd, h1], show refCd sa sb xa xb = 1 by simp [refCd, h1]]
    rw [h1] at C1
    subst hW3
    clear h1 ha hb HA HB
    go_enter Try.func25, Try.ntmps25
    go_wp2_with fail
    refine (C1.out _ b3).mono ?_
    rintro e w1 ⟨rfl, hq⟩
    go_wp2
    go_ret2
    exact ⟨rfl, below_trans b3 hq⟩
  cases h2 : validC sb xb
  · rw [show refOk sa sb xa xb = false by simp [refOk, refCd, h2], show refCd sa sb xa xb = 1 by simp [refCd, h2]]
    rw [h1] at C1
    rw [h2] at C2
    subst hW3
    clear h1 h2 ha hb HA HB
    go_enter Try.func25, Try.ntmps25
    go_wp2_with fail
    refine (C1.out _ b3).mono ?_
    rintro e w1 ⟨rfl, hq⟩
    replace p2 := below_cell hq p2
    replace p3 := below_cell hq p3
    go_wp2_with fail
    refine (C2.out _ (below_trans b3 hq)).mono ?_
    rintro e w2 ⟨rfl, hq2⟩
    replace hq := below_trans hq hq2
    go_wp2
    go_ret2
    exact ⟨rfl, below_trans b3 hq⟩
  obtain ⟨n, GA⟩ := goodC_of h1
  obtain ⟨m, GB⟩ := goodC_of h2
  rw [h1] at C1
  rw [h2] at C2
  by_cases h3 : ¬ (sa = sb ∧ xa.length = xb.length)
  · rw [show refOk sa sb xa xb = false by simp [refOk, refCd, h1, h2, h3], show refCd sa sb xa xb = 2 by simp [refCd, h1, h2, h3]]
    by_cases h4 : sa = sb
    · have hne1 : (sa != sb) = false := by simp [h4]
      have hne2 : (((xa.length : Nat) : Int) != ((xb.length : Nat) : Int)) = true := by
        have : xa.length ≠ xb.length := fun h => h3 ⟨h4, h⟩
        simp; omega
      have H4 := Lib.hid h4
      have HL1 := Lib.hid (fun W => lettersChoice_any sa aoa xa.length ca W hma)
      have HL2 := Lib.hid (fun W => lettersChoice_any sb aob xb.length cb W hmb)
      subst hW3
      clear h1 h2 h3 h4 ha hb HA HB GA GB
      go_enter Try.func25, Try.ntmps25
      go_wp2_with fail
      refine (C1.out _ b3).mono ?_
      rintro e w1 ⟨rfl, hq⟩
      replace p2 := below_cell hq p2
      replace p3 := below_cell hq p3
      go_wp2_with fail
      refine (C2.out _ (below_trans b3 hq)).mono ?_
      rintro e w2 ⟨rfl, hq2⟩
      replace p2 := below_cell hq2 p2
      replace p3 := below_cell hq2 p3
      replace hq := below_trans hq hq2
      replace p0 := below_cell hq p0
      replace p1 := below_cell hq p1
      have bw := below_trans b3 hq
      have z0 := block_lt_of_cell p0
      have z1 := block_lt_of_cell p2
      clear hq hq2
      go_wp2
      go_region_held3 (fun w' => Below w2.heap.size w2 w' ∧ ∀ b o, b < w2.heap.size → w'.cell? ⟨b, o, none⟩ = w2.cell? ⟨b, o, none⟩) (first | exact held_start | assumption | exact held_nx (by assumption) (by assumption)) (first | (go_simp; go_at_call 76; (with_reducible refine (HL1.out _).mono ?_); rintro e w4 ⟨rfl, hb4⟩) | (go_simp; go_at_call 76; (with_reducible refine (HL2.out _).mono ?_); rintro e w4 ⟨rfl, hb4⟩))
      all_goals
        go_wp2
        go_ret2
        exact ⟨rfl, below_trans bw (And.left (by assumption))⟩
    · have hne1 : (sa != sb) = true := by simp [h4]
      subst hW3
      clear h1 h2 h3 h4 ha hb HA HB GA GB
      go_enter Try.func25, Try.ntmps25
      go_wp2_with fail
      refine (C1.out _ b3).mono ?_
      rintro e w1 ⟨rfl, hq⟩
      replace p2 := below_cell hq p2
      replace p3 := below_cell hq p3
      go_wp2_with fail
      refine (C2.out _ (below_trans b3 hq)).mono ?_
      rintro e w2 ⟨rfl, hq2⟩
      replace p2 := below_cell hq2 p2
      replace p3 := below_cell hq2 p3
      replace hq := below_trans hq hq2
      replace p0 := below_cell hq p0
      replace p1 := below_cell hq p1
      have bw := below_trans b3 hq
      clear hq hq2
      go_wp2
      go_quiet (fail)
      go_wp2
      go_ret2
      exact ⟨rfl, below_drewN' bw _⟩
  replace h3 := Decidable.not_not.1 h3
  have hcd0 : refCd sa sb xa xb = 0 := by unfold refCd; rw [if_pos ⟨h1, h2⟩, if_pos h3]
  rw [show refOk sa sb xa xb = subAll xa xb by unfold refOk; rw [if_pos hcd0], hcd0]
  obtain ⟨rfl, h4⟩ := h3
  have hmn : m = n := by have := GA.st; have := GB.st; omega
  subst hmn
  have hne1 : (sa != sa) = false := by simp
  have hne2 : (((xa.length : Nat) : Int) != ((xb.length : Nat) : Int)) = false := by simp; omega
  have H4 := Lib.hid h4
  have HGA := Lib.hid GA
  have HGB := Lib.hid GB
  have hm10 := GA.hi
  have h4' : xa.length ≤ xb.length := by omega
  have HL1 := Lib.hid (fun W => lettersChoice_any sa aoa xa.length ca W hma)
  have HL2 := Lib.hid (fun W => lettersChoice_any sa aob xb.length cb W hmb)
  subst hW3
  clear h1 h2 h4 GA GB hcd0
  go_enter Try.func25, Try.ntmps25
  go_wp2_with fail
  refine (C1.out _ b3).mono ?_
  rintro e w1 ⟨rfl, hq⟩
  replace p2 := below_cell hq p2
  replace p3 := below_cell hq p3
  go_wp2_with fail
  refine (C2.out _ (below_trans b3 hq)).mono ?_
  rintro e w2 ⟨rfl, hq2⟩
  replace p2 := below_cell hq2 p2
  replace p3 := below_cell hq2 p3
  replace hq := below_trans hq hq2
  replace p0 := below_cell hq p0
  replace p1 := below_cell hq p1
  have bw := below_trans b3 hq
  have z0 := block_lt_of_cell p0
  have z1 := block_lt_of_cell p2
  clear hq hq2 C1 C2
  go_wp2
  go_region_held3 (fun w' => Below w2.heap.size w2 w' ∧ ∀ b o, b < w2.heap.size → w'.cell? ⟨b, o, none⟩ = w2.cell? ⟨b, o, none⟩) (first | exact held_start | assumption | exact held_nx (by assumption) (by assumption)) (first | (go_simp; go_at_call 76; (with_reducible refine (HL1.out _).mono ?_); rintro e w4 ⟨rfl, hb4⟩) | (go_simp; go_at_call 76; (with_reducible refine (HL2.out _).mono ?_); rintro e w4 ⟨rfl, hb4⟩))
  all_goals
    rename Below w2.heap.size w2 w4 ∧ _ => hS
    obtain ⟨hw4, hcs⟩ := hS
    clear hcs
    replace p1 := below_cell hw4 p1
    replace p3 := below_cell hw4 p3
    replace bw := below_trans bw hw4
    clear hw4 p0 p2 z0 z1
    go_wp2
    go_loopw [35] (fun i wr => ∃ k : Nat, k ≤ xa.length ∧ i = .int .i64 k ∧ Hid (∀ j, j < k → subRow xa xb j = true) ∧ Qu w4 wr) (fun i _ => xa.length - (intOf i).toNat)
    case atStart => exact ⟨0, Nat.zero_le _, rfl, fun j hj => absurd hj (by omega), Qu.refl _⟩
    case round =>
      obtain ⟨k, hk, rfl, hall, hq⟩ := hrel
      obtain ⟨wo, rfl⟩ : ∃ wo : World, wo = wr := ⟨_, rfl⟩
      replace p1 := hq.cell p1
      replace p3 := hq.cell p3
      have bwo := below_trans bw (hq.below _)
      by_cases hlt : k < xa.length
      · have i1 := idx_of Try.underlying33 size1_rows (c := ca) HA.adr hlt .i64
        have i2 := idx_of Try.underlying33 size1_rows (c := cb) HB.adr (show k < xb.length by omega) .i64
        obtain ⟨ra, d1, hra⟩ := HA.cell k hlt
        obtain ⟨rb, d2, hrb⟩ := HB.cell k (by omega)
        replace d1 := below_cell bwo d1
        replace d2 := below_cell bwo d2
        replace hra := hra.kept bwo
        replace hrb := hrb.kept bwo
        obtain ⟨ao2, q2, o2, c2, H2⟩ := hra.open
        obtain ⟨ao3, q3, o3, c3, H3⟩ := hrb.open
        have hv2 := H2.val
        have hv3 := H3.val
        subst hv2 hv3
        have hm2 := H2.len
        have hm3 := H3.len
        have hl2 := HGA.out.row k hlt
        have hl3 := HGB.out.row k (by omega)
        have A2 := H2.adr
        have A3 := H3.adr
        rw [hl2] at A2 d1 hm2
        rw [hl3] at A3 d2 hm3
        have HL2 := Lib.hid hl2
        clear hl2 hl3 hra hrb
        go_wp2
        go_loopw [42] (fun i wr => ∃ s : Nat, s ≤ m ∧ i = .int .i64 s ∧ Hid (∀ j, j < s → subAt xa xb k j = true) ∧ Qu wo wr) (fun i _ => m - (intOf i).toNat)
        case atStart => exact ⟨0, Nat.zero_le _, rfl, fun j hj => absurd hj (by omega), Qu.refl _⟩
        case round =>
          obtain ⟨s, hs, rfl, hin, hq2⟩ := hrel
          replace p1 := hq2.cell p1
          replace p3 := hq2.cell p3
          replace d1 := hq2.cell d1
          replace d2 := hq2.cell d2
          have hq3 := Lib.hid (hq.trans hq2)
          by_cases hlt2 : s < m
          · have i3 := idx_of Try.underlying22 size1_ints (c := c2) A2 hlt2 .i64
            have i4 := idx_of Try.underlying22 size1_ints (c := c3) A3 hlt2 .i64
            obtain ⟨r5, d5, hr5⟩ := H2.cell s (by rw [HL2.out]; exact hlt2)
            obtain ⟨r6, d6, hr6⟩ := H3.cell s (by rw [HGB.out.row k (by omega)]; exact hlt2)
            replace d5 := hq2.cell d5
            replace d6 := hq2.cell d6
            have g5 := HGA.out.set hlt hlt2
            have g6 := HGB.out.set (show k < xb.length by omega) hlt2
            have HBA := Lib.hid (quiet_flock r5 _ wr (hq2.ints hr5) g5)
            have HBB := Lib.hid (quiet_flock r6 _ wr (hq2.ints hr6) g6)
            have hne := lessU_ne (b := bitsOf ((xb.getD k []).getD s [])) (bits10 g5)
            have HSUB : Hid (subAt xa xb k s = (lessB (bitsOf ((xa.getD k []).getD s [])) (bitsOf ((xb.getD k []).getD s [])) == 0)) := rfl
            have HNO := Lib.hid (fun h => subRow_no (xa := xa) (xb := xb) (k := k) (s := s) (by rw [HL2.out]; exact hlt2) h)
            generalize bitsOf ((xa.getD k []).getD s []) = fa at HBA hne HSUB
            generalize bitsOf ((xb.getD k []).getD s []) = fb at HBB hne HSUB
            clear g5 g6 hr5 hr6
            cases hL : (lessB fa fb == 0)
            · rw [hL] at hne HSUB
              have HF := Lib.hid (subAll_no hlt (HNO.out HSUB.out))
              clear hL HNO HSUB
              go_wp2
              go_quiet ((go_at_call 77; first | (with_reducible exact Calls.quiet_of_same' (HBA.out _)) | (with_reducible exact Calls.quiet_of_same' (HBB.out _))))
              go_wp2
              go_ret2
              rw [HF.out]
              exact ⟨rfl, below_drewN' (below_trans bw (hq3.out.below _)) _⟩
            · rw [hL] at hne HSUB
              clear hL HNO
              go_wp2
              go_quiet ((go_at_call 77; first | (with_reducible exact Calls.quiet_of_same' (HBA.out _)) | (with_reducible exact Calls.quiet_of_same' (HBB.out _))))
              go_wp2
              go_roundw
              case rel => exact ⟨s + 1, by omega, by go_num, fun j hj => by
                rcases Nat.lt_or_ge j s with h | h
                · exact hin.out j h
                · obtain rfl : j = s := by omega
                  exact HSUB.out, hq2.drewN _⟩
              case measure => simp [intOf]; omega
          · obtain rfl : s = m := by omega
            have HY := Lib.hid (subRow_yes (xa := xa) (xb := xb) (k := k) (by rw [HL2.out]; exact hin.out))
            go_wp2
            go_roundw
            case rel => exact ⟨k + 1, by omega, by go_num, fun j hj => by
              rcases Nat.lt_or_ge j k with h | h
              · exact hall.out j h
              · obtain rfl : j = k := by omega
                exact HY.out, hq3.out⟩
            case measure => simp [intOf]; omega
      · obtain rfl : k = xa.length := by omega
        have HY := Lib.hid (subAll_yes hall.out)
        go_wp2
        go_ret2
        rw [HY.out]
        exact ⟨rfl, bwo⟩

end Go.Proofs.Ytkmaglifohffnaa
