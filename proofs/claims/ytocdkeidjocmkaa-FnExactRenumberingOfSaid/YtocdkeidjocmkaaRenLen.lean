/- The renumbering is short. -/
import Derived.Test.YtocdkeidjocmkaaRenSpecB
namespace Go.Proofs.Ytocdkeidjocmkaa
set_option linter.unusedVariables false
set_option linter.unusedSimpArgs false

theorem rnZs_len (st0 st1 : Int) (x0 x1 : List (List Int)) : (rnZs st0 st1 x0 x1).length ≤ 10 := by
  unfold rnZs
  split
  · rename_i hv
    split
    · rename_i hs
      unfold rnOk at hv
      rw [Bool.and_eq_true] at hv
      obtain ⟨n, hga⟩ := good_of hv.1
      obtain ⟨n1, hgb⟩ := good_of hv.2
      unfold rnSame at hs
      rw [Bool.and_eq_true] at hs
      have e1 := of_decide_eq_true hs.1
      have e2 := of_decide_eq_true hs.2
      have hn10 := hga.hi
      have hst := hga.st
      have hst1 := hgb.st
      have hnn : n1 = n := by omega
      subst hnn
      have hb : ∀ x, x < x0.length → ∀ i, i < n1 → ((x1.getD x []).getD i 0).toNat < n1 := fun x hx i hi => by
        have := hgb.val (x := x) (by omega) hi; omega
      have ha := turn_ans (a := x0) (b := x1) (n := n1) (m := x0.length) hb
      unfold rnAns
      rw [show st0.toNat = n1 by omega]
      cases hq : turnF x0 x1 n1 x0.length n1 (List.replicate n1 (-1)) 0 with
      | none => simp
      | some r =>
        rw [hq] at ha
        have := ha.iso.len
        simp
        omega
    · simp
  · simp

end Go.Proofs.Ytocdkeidjocmkaa
