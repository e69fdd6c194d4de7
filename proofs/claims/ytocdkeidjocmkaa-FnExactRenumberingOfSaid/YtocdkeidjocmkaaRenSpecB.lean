/- RenumberingOf of the reference: the whole. -/
import Derived.Test.YtocdkeidjocmkaaRenTurn
namespace Go.Proofs.Ytocdkeidjocmkaa
set_option linter.unusedVariables false
set_option linter.unusedSimpArgs false
open Go.ChangeShapes Go.WideShapes Go.ChangeAt Go.RowKit

def rnAns (st0 : Int) (x0 x1 : List (List Int)) : Option (List Int) := turnF x0 x1 st0.toNat x0.length st0.toNat (List.replicate st0.toNat (-1)) 0
def rnSame (st0 st1 : Int) (x0 x1 : List (List Int)) : Bool := decide (st0 = st1) && decide (x0.length = x1.length)
def rnOk (st0 st1 : Int) (x0 x1 : List (List Int)) : Bool := validB st0 x0 && validB st1 x1
def rnZs (st0 st1 : Int) (x0 x1 : List (List Int)) : List Int := if rnOk st0 st1 x0 x1 = true then (if rnSame st0 st1 x0 x1 = true then (rnAns st0 x0 x1).getD [] else []) else []
def rnCd (st0 st1 : Int) (x0 x1 : List (List Int)) : Int := if rnOk st0 st1 x0 x1 = true then (if rnSame st0 st1 x0 x1 = true then (if (rnAns st0 x0 x1).isSome = true then 0 else 6) else 6) else 1
theorem ints2_is {zs zs0 : List Int} {c c0 : Int} {w w' : World} {e : Ending} (h1 : zs = zs0) (h2 : c = c0) (h : NewInts2 zs0 c0 w e w') : NewInts2 zs c w e w' := by rw [h1, h2]; exact h
theorem rn_bad {st0 st1 : Int} {x0 x1 : List (List Int)} (h : rnOk st0 st1 x0 x1 = false) : rnZs st0 st1 x0 x1 = [] ∧ rnCd st0 st1 x0 x1 = 1 := by simp [rnZs, rnCd, h]
theorem rn_unlike {st0 st1 : Int} {x0 x1 : List (List Int)} (h : rnOk st0 st1 x0 x1 = true) (h2 : rnSame st0 st1 x0 x1 = false) : rnZs st0 st1 x0 x1 = [] ∧ rnCd st0 st1 x0 x1 = 6 := by simp [rnZs, rnCd, h, h2]
theorem rn_none {st0 st1 : Int} {x0 x1 : List (List Int)} (h : rnOk st0 st1 x0 x1 = true) (h2 : rnSame st0 st1 x0 x1 = true) (h3 : rnAns st0 x0 x1 = none) : rnZs st0 st1 x0 x1 = [] ∧ rnCd st0 st1 x0 x1 = 6 := by simp [rnZs, rnCd, h, h2, h3]
theorem rn_some {st0 st1 : Int} {x0 x1 : List (List Int)} {r : List Int} (h : rnOk st0 st1 x0 x1 = true) (h2 : rnSame st0 st1 x0 x1 = true) (h3 : rnAns st0 x0 x1 = some r) : rnZs st0 st1 x0 x1 = r ∧ rnCd st0 st1 x0 x1 = 0 := by simp [rnZs, rnCd, h, h2, h3]
theorem snocMinus (k : Nat) : (List.replicate k (-1 : Int)).map (Value.int .i64) ++ [.int .i64 (-1)] = (List.replicate (k + 1) (-1 : Int)).map (Value.int .i64) := by
  rw [List.replicate_succ', List.map_append]
  rfl

set_option maxRecDepth 100000 in
set_option maxHeartbeats 8000000 in
theorem specRen_any (st0 st1 : Int) (v0 v1 : Value) (x0 x1 : List (List Int)) (w : World) (h0 : Rows2 w v0 x0) (h1 : Rows2 w v1 x1) :
    Calls Try.prog 31 #[.agg #[.int .i64 st0, v0], .agg #[.int .i64 st1, v1]] w (NewInts2 (rnZs st0 st1 x0 x1) (rnCd st0 st1 x0 x1) w) := by
  obtain ⟨ao0, m0, c0, rfl, HM0⟩ := h0.shape
  obtain ⟨ao1, m1, c1, rfl, HM1⟩ := h1.shape
  obtain ⟨W2, hW2⟩ : ∃ W2, W2 = (w.alloc (.cells #[.int .i64 st0, .slice ao0 m0 c0] 44)).alloc (.cells #[.int .i64 st1, .slice ao1 m1 c1] 44) := ⟨_, rfl⟩
  have bx : Below w.heap.size w W2 := by rw [hW2]; exact below_alloc (below_alloc (Below.refl _ _) _) _
  have p0 : W2.cell? ⟨w.heap.size, 0, none⟩ = some (.int .i64 st0) := by rw [hW2]; go_simp
  have p1 : W2.cell? ⟨w.heap.size, 1, none⟩ = some (.slice ao0 m0 c0) := by rw [hW2]; go_simp
  have q0 : W2.cell? ⟨w.heap.size + 1, 0, none⟩ = some (.int .i64 st1) := by rw [hW2]; go_simp
  have q1 : W2.cell? ⟨w.heap.size + 1, 1, none⟩ = some (.slice ao1 m1 c1) := by rw [hW2]; go_simp
  have HOKA := Lib.hid (l01Ok_any w.heap.size 0 st0 _ x0 W2 p0 p1 (h0.kept bx))
  have HOKB := Lib.hid (fun W (hW : Below W2.heap.size W2 W) => l01Ok_any (w.heap.size + 1) 0 st1 _ x1 W (below_cell hW q0) (below_cell hW q1) (h1.kept (below_trans bx hW)))
  cases hva : validB st0 x0
  · have HB : Hid (rnZs st0 st1 x0 x1 = [] ∧ rnCd st0 st1 x0 x1 = 1) := rn_bad (by simp [rnOk, hva])
    rw [hva] at HOKA
    subst hW2
    clear hva h0 h1
    go_enter Try.func31, Try.ntmps31
    go_wp2_with fail
    refine HOKA.out.mono ?_
    rintro e w2 ⟨rfl, hq⟩
    have hb := below_trans bx (hq.below _)
    have HE := Lib.hid (own_empty w2 w.heap.size hb.size 2)
    go_wp2
    go_ret2
    exact ints2_is HB.out.1 HB.out.2 ⟨_, rfl, HE.out, below_alloc hb _⟩
  · rw [hva] at HOKA
    cases hvb : validB st1 x1
    · have HB : Hid (rnZs st0 st1 x0 x1 = [] ∧ rnCd st0 st1 x0 x1 = 1) := rn_bad (by simp [rnOk, hva, hvb])
      rw [hvb] at HOKB
      subst hW2
      clear hva hvb h0 h1
      go_enter Try.func31, Try.ntmps31
      go_wp2_with fail
      refine HOKA.out.mono ?_
      rintro e w2 ⟨rfl, hq⟩
      have hb2 := hq.below ((w.alloc (.cells #[.int .i64 st0, .slice ao0 m0 c0] 44)).alloc (.cells #[.int .i64 st1, .slice ao1 m1 c1] 44)).heap.size
      go_wp2_with fail
      refine (HOKB.out _ hb2).mono ?_
      rintro e w3 ⟨rfl, hq3⟩
      have hb := below_trans bx (below_trans hb2 (hq3.below _))
      have HE := Lib.hid (own_empty w3 w.heap.size hb.size 2)
      go_wp2
      go_ret2
      exact ints2_is HB.out.1 HB.out.2 ⟨_, rfl, HE.out, below_alloc hb _⟩
    · rw [hvb] at HOKB
      have HV : Hid (rnOk st0 st1 x0 x1 = true) := by unfold Hid rnOk; rw [hva, hvb]; rfl
      obtain ⟨n, hga⟩ := good_of hva
      obtain rfl := hga.st
      obtain ⟨n1, hgb⟩ := good_of hvb
      obtain rfl := hgb.st
      have hn10 := hga.hi
      have hn1 := hga.lo
      have HGA := Lib.hid hga
      have HGB := Lib.hid hgb
      have H0 := Lib.hid (h0.kept bx)
      have H1 := Lib.hid (h1.kept bx)
      obtain ⟨X2, hX2⟩ : ∃ X2, X2 = W2 := ⟨_, rfl⟩
      have HX2 := Lib.hid hX2
      have sX : X2.heap.size = w.heap.size + 2 := by rw [hX2, hW2]; simp
      rw [← hX2] at H0 H1
      subst hW2
      clear hva hvb h0 h1 hga hgb hX2
      go_enter Try.func31, Try.ntmps31
      go_wp2_with fail
      refine HOKA.out.mono ?_
      rintro e w2 ⟨rfl, hq⟩
      have hb2 := hq.below ((w.alloc (.cells #[.int .i64 n, .slice ao0 m0 c0] 44)).alloc (.cells #[.int .i64 n1, .slice ao1 m1 c1] 44)).heap.size
      go_wp2_with fail
      refine (HOKB.out _ hb2).mono ?_
      rintro e w3 ⟨rfl, hq3⟩
      have hb23 := below_trans hb2 (hq3.below _)
      have bw := below_trans bx hb23
      replace p0 := below_cell hb23 p0
      replace p1 := below_cell hb23 p1
      replace q0 := below_cell hb23 q0
      replace q1 := below_cell hb23 q1
      have HR0 : Hid (Rows2 w3 (.slice ao0 m0 c0) x0) := H0.out.kept (by rw [HX2.out]; exact hb23)
      have HR1 : Hid (Rows2 w3 (.slice ao1 m1 c1) x1) := H1.out.kept (by rw [HX2.out]; exact hb23)
      have HE := Lib.hid (own_empty w3 w3.heap.size (Nat.le_refl _) 2)
      have hbe : Below w3.heap.size w3 (w3.alloc (.cells #[] 2)) := below_alloc (Below.refl _ _) _
      have hw3 := bw.size
      clear hb2 hb23 HOKA HOKB hq hq3 H0 H1 HX2 sX bx
      go_wp2
      go_loopw [6, 7] (fun u i wr => ∃ k : Nat, k ≤ n ∧ i = .int .i64 k ∧ Hid (wr.ownsRow w3.heap.size 2 1 u k ((List.replicate k (-1 : Int)).map (Value.int .i64))) ∧ Below w3.heap.size w3 wr) (fun _ i _ => n - (intOf i).toNat)
      case atStart => exact ⟨0, Nat.zero_le _, rfl, HE.out, hbe⟩
      case round =>
        obtain ⟨k, hk, rfl, HO, hb⟩ := hrel
        have e0 := below_cell hb p0
        have e1 := below_cell hb p1
        have e2 := below_cell hb q0
        have e3 := below_cell hb q1
        by_cases hlt : k < n
        · go_wp2_with (at_builtin; refine wpList_push elem_int rfl (.tmp 22) (.tmp 23) rfl w3.heap.size rfl HO.out _ rfl rfl (by unfold maxLen; omega) (by omega) hb.size ?_; intro v6 w6 ho6 hg6 hs6)
          rw [snocMinus] at ho6
          have HO6 := Lib.hid ho6
          have hb6 : Below w3.heap.size w3 w6 := Below.grown hb hg6 hb.size (fun g hg => (own_block HO.out hg).1)
          clear ho6 hg6 hs6
          go_wp2
          go_roundw
          case rel => exact ⟨k + 1, by omega, by go_num, HO6.out, hb6⟩
          case measure => simp [intOf]; omega
        · obtain rfl : k = n := by omega
          obtain ⟨g, c, rfl, _⟩ := own_some HO.out hn1
          have hgl := (own_block (g := g) HO.out rfl).1
          have hbw := below_trans bw hb
          by_cases hst : k = n1
          · subst hst
            have hb1 : ((k : Int) != (k : Int)) = false := by simp
            by_cases hl : m0 = m1
            · subst hl
              have hb2 : ((m0 : Int) != (m0 : Int)) = false := by simp
              have hTA : TwoA w3 k m0 w.heap.size (w.heap.size + 1) (.slice ao0 m0 c0) (.slice ao1 m0 c1) x0 x1 := ⟨p0, p1, q0, q1, HR0.out, HR1.out, HGA.out, HGB.out, HM0.out.symm, HM1.out.symm⟩
              have HTN := Lib.hid (l01Turned_any w3 k m0 _ _ _ _ x0 x1 hTA g c hgl k 0 (by omega) (List.replicate k (-1)) wr hb HO.out (by simp) (fun i hi => by simp [List.getD_eq_getElem?_getD, hi]; omega) (fun i _ hi => by simp [List.getD_eq_getElem?_getD, hi]))
              have HSM : Hid (rnSame k k x0 x1 = true) := by unfold Hid rnSame; rw [← HM0.out, ← HM1.out]; simp
              have HAN : Hid (rnAns k x0 x1 = turnF x0 x1 k m0 k (List.replicate k (-1)) 0) := by unfold Hid rnAns; rw [← HM0.out]; rfl
              obtain ⟨x, hx⟩ : ∃ x, x = turnF x0 x1 k m0 k (List.replicate k (-1)) 0 := ⟨_, rfl⟩
              rw [← hx] at HTN HAN
              have HTL : Hid (∀ r, x = some r → r.length = k) := fun r hr => by
                have := turn_ans (a := x0) (b := x1) (n := k) (m := m0) hTA.bnd
                rw [← hx, hr] at this
                exact this.iso.len
              clear hx hTA
              go_wp2_with fail
              refine HTN.out.mono ?_
              rintro e w5 ⟨rfl, ho5, hb5⟩
              have hbw5 := below_trans bw hb5
              cases x with
              | none =>
                have HB := Lib.hid (rn_none HV.out HSM.out HAN.out)
                have HE5 := Lib.hid (own_empty w5 w.heap.size hbw5.size 2)
                clear ho5
                go_wp2
                go_ret2
                exact ints2_is HB.out.1 HB.out.2 ⟨_, rfl, HE5.out, below_alloc hbw5 _⟩
              | some r =>
                have HB := Lib.hid (rn_some HV.out HSM.out HAN.out)
                have hrl := HTL.out r rfl
                have hO5 : w5.ownsRow w.heap.size 2 1 (.slice (some ⟨g, 0, none⟩) k c) r.length (r.map (Value.int .i64)) := by rw [hrl]; exact own_lo ho5 hw3
                have HO5 := Lib.hid hO5
                clear ho5 hO5 hrl
                go_wp2
                go_ret2
                exact ints2_is HB.out.1 HB.out.2 ⟨_, rfl, HO5.out, hbw5⟩
            · have hb2 : ((m0 : Int) != (m1 : Int)) = true := by simp; omega
              have HB := Lib.hid (rn_unlike HV.out (show rnSame k k x0 x1 = false by unfold rnSame; rw [← HM0.out, ← HM1.out]; simp [hl]))
              have HE5 := Lib.hid (own_empty wr w.heap.size hbw.size 2)
              clear hl
              go_wp2
              go_ret2
              exact ints2_is HB.out.1 HB.out.2 ⟨_, rfl, HE5.out, below_alloc hbw _⟩
          · have hb1 : ((k : Int) != (n1 : Int)) = true := by simp; omega
            have HB := Lib.hid (rn_unlike HV.out (show rnSame k n1 x0 x1 = false by unfold rnSame; rw [decide_eq_false (by omega)]; rfl))
            have HE5 := Lib.hid (own_empty wr w.heap.size hbw.size 2)
            clear hst
            go_wp2
            go_ret2
            exact ints2_is HB.out.1 HB.out.2 ⟨_, rfl, HE5.out, below_alloc hbw _⟩

end Go.Proofs.Ytocdkeidjocmkaa
