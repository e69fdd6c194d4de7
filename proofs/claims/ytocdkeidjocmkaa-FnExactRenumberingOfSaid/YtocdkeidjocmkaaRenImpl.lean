/- RenumberingOf of the program: the whole. -/
import Derived.Test.YtocdkeidjocmkaaRenFind
import Derived.Test.YtocdkeidjocmkaaRepeat
import Derived.Deep.RegionHeld3
import Derived.Laws.EntriesVeiled
namespace Go.Proofs.Ytocdkeidjocmkaa
set_option linter.unusedVariables false
set_option linter.unusedSimpArgs false
open Go.ChangeShapes Go.WideShapes Go.ChangeAt Go.RowKit

theorem eql_nil_yes : ∀ W, Sem.run Try.prog (binOp .eql 55 (.slice none 0 0) (.slice none 0 0)) W = .ok (.bool true) W := fun _ => by kernel_rfl
theorem eql_nil_no (g n c : Nat) : ∀ W, Sem.run Try.prog (binOp .eql 55 (.slice (some ⟨g, 0, none⟩) n c) (.slice none 0 0)) W = .ok (.bool false) W := fun _ => by kernel_rfl
theorem freeN_rep (n : Nat) : freeN (List.replicate n (-1)) ≤ n := by
  unfold freeN
  exact Nat.le_trans List.countP_le_length (by simp)
theorem closed_none (n m : Nat) (a b : List (List Int)) : ClosedP n m a b (List.replicate n (-1)) := by
  intro j hj h0
  simp [List.getD_eq_getElem?_getD, hj] at h0

set_option maxRecDepth 100000 in
set_option maxHeartbeats 8000000 in
theorem implRen_any (st0 st1 : Int) (v0 v1 : Value) (x0 x1 : List (List Int)) (w : World) (h0 : Rows2 w v0 x0) (h1 : Rows2 w v1 x1) :
    Calls Try.prog 32 #[.agg #[.int .i64 st0, v0], .agg #[.int .i64 st1, v1]] w (NewInts2 (rnZs st0 st1 x0 x1) (rnCd st0 st1 x0 x1) w) := by
  obtain ⟨ao0, m0, c0, rfl, HM0⟩ := h0.shape
  obtain ⟨ao1, m1, c1, rfl, HM1⟩ := h1.shape
  have hb0 : m0 ≤ 9223372036854775807 := by obtain ⟨a, b, o, c, H⟩ := h0.open; have := H.len; have := HM0.out; omega
  have hb1 : m1 ≤ 9223372036854775807 := by obtain ⟨a, b, o, c, H⟩ := h1.open; have := H.len; have := HM1.out; omega
  obtain ⟨W2, hW2⟩ : ∃ W2, W2 = (w.alloc (.cells #[.int .i64 st0, .slice ao0 m0 c0] 44)).alloc (.cells #[.int .i64 st1, .slice ao1 m1 c1] 44) := ⟨_, rfl⟩
  have bx : Below w.heap.size w W2 := by rw [hW2]; exact below_alloc (below_alloc (Below.refl _ _) _) _
  have p0 : W2.cell? ⟨w.heap.size, 0, none⟩ = some (.int .i64 st0) := by rw [hW2]; go_simp
  have p1 : W2.cell? ⟨w.heap.size, 1, none⟩ = some (.slice ao0 m0 c0) := by rw [hW2]; go_simp
  have q0 : W2.cell? ⟨w.heap.size + 1, 0, none⟩ = some (.int .i64 st1) := by rw [hW2]; go_simp
  have q1 : W2.cell? ⟨w.heap.size + 1, 1, none⟩ = some (.slice ao1 m1 c1) := by rw [hW2]; go_simp
  have HOKA := Lib.hid (validAuto_any st0 _ x0 W2 (h0.kept bx))
  have HOKB := Lib.hid (fun W (hW : Below W2.heap.size W2 W) => validAuto_any st1 _ x1 W (h1.kept (below_trans bx hW)))
  have HL1 := Lib.hid (fun W => lettersAuto_any st0 ao0 m0 c0 W hb0)
  have HL2 := Lib.hid (fun W => lettersAuto_any st1 ao1 m1 c1 W hb1)
  cases hva : validB st0 x0
  · have HB : Hid (rnZs st0 st1 x0 x1 = [] ∧ rnCd st0 st1 x0 x1 = 1) := rn_bad (by simp [rnOk, hva])
    rw [hva] at HOKA
    subst hW2
    clear hva h0 h1
    go_enter Try.func32, Try.ntmps32
    go_wp2_with fail
    refine HOKA.out.mono ?_
    rintro e w2 ⟨rfl, hb2⟩
    have hb := below_trans bx hb2
    go_wp2
    go_ret2
    exact ints2_is HB.out.1 HB.out.2 ⟨_, rfl, World.ownsRow_nil _ _ _ _, hb⟩
  · rw [hva] at HOKA
    cases hvb : validB st1 x1
    · have HB : Hid (rnZs st0 st1 x0 x1 = [] ∧ rnCd st0 st1 x0 x1 = 1) := rn_bad (by simp [rnOk, hva, hvb])
      rw [hvb] at HOKB
      subst hW2
      clear hva hvb h0 h1
      go_enter Try.func32, Try.ntmps32
      go_wp2_with fail
      refine HOKA.out.mono ?_
      rintro e w2 ⟨rfl, hb2⟩
      replace q0 := below_cell hb2 q0
      replace q1 := below_cell hb2 q1
      go_wp2_with fail
      refine (HOKB.out _ hb2).mono ?_
      rintro e w3 ⟨rfl, hb3⟩
      have hb := below_trans bx (below_trans hb2 hb3)
      go_wp2
      go_ret2
      exact ints2_is HB.out.1 HB.out.2 ⟨_, rfl, World.ownsRow_nil _ _ _ _, hb⟩
    · rw [hvb] at HOKB
      have HV : Hid (rnOk st0 st1 x0 x1 = true) := by unfold Hid rnOk; rw [hva, hvb]; rfl
      obtain ⟨n, hga⟩ := good_of hva
      obtain rfl := hga.st
      obtain ⟨n1, hgb⟩ := good_of hvb
      obtain rfl := hgb.st
      have hn10 := hga.hi
      have hn1 := hga.lo
      have HGA := Lib.hid hga
      have HGB := Lib.hid hgb
      have H0 := Lib.hid (h0.kept bx)
      have H1 := Lib.hid (h1.kept bx)
      obtain ⟨X2, hX2⟩ : ∃ X2, X2 = W2 := ⟨_, rfl⟩
      have HX2 := Lib.hid hX2
      rw [← hX2] at H0 H1
      subst hW2
      clear hva hvb h0 h1 hga hgb hX2 hb0 hb1
      go_enter Try.func32, Try.ntmps32
      go_wp2_with fail
      refine HOKA.out.mono ?_
      rintro e w2 ⟨rfl, hb2⟩
      replace q0 := below_cell hb2 q0
      replace q1 := below_cell hb2 q1
      go_wp2_with fail
      refine (HOKB.out _ hb2).mono ?_
      rintro e w3 ⟨rfl, hb3⟩
      have hb23 := below_trans hb2 hb3
      have bw := below_trans bx hb23
      replace p0 := below_cell hb23 p0
      replace p1 := below_cell hb23 p1
      replace q0 := below_cell hb3 q0
      replace q1 := below_cell hb3 q1
      have HR0 : Hid (Rows2 w3 (.slice ao0 m0 c0) x0) := H0.out.kept (by rw [HX2.out]; exact hb23)
      have HR1 : Hid (Rows2 w3 (.slice ao1 m1 c1) x1) := H1.out.kept (by rw [HX2.out]; exact hb23)
      have z0 := block_lt_of_cell p0
      have z1 := block_lt_of_cell q0
      have hw3 := bw.size
      clear hb2 hb3 hb23 HOKA HOKB H0 H1 HX2 bx
      by_cases hst : n = n1
      · subst hst
        have hne1 : ((n : Int) != (n : Int)) = false := by simp
        by_cases hl : m0 = m1
        · subst hl
          have hne2 : ((m0 : Int) != (m0 : Int)) = false := by simp
          go_wp2
          go_region_held3 (fun w' => Below w3.heap.size w3 w' ∧ ∀ b o, b < w3.heap.size → w'.cell? ⟨b, o, none⟩ = w3.cell? ⟨b, o, none⟩) (first | exact held_start | assumption | exact held_nx (by assumption) (by assumption)) (first | (go_simp; go_at_call 59; (with_reducible refine (HL1.out _).mono ?_); rintro e w4 ⟨rfl, hb4⟩) | (go_simp; go_at_call 59; (with_reducible refine (HL2.out _).mono ?_); rintro e w4 ⟨rfl, hb4⟩))
          all_goals
            rename Below w3.heap.size w3 w4 ∧ _ => hS
            obtain ⟨hw4, hcs⟩ := hS
            clear hcs
            replace p0 := below_cell hw4 p0
            replace p1 := below_cell hw4 p1
            replace q0 := below_cell hw4 q0
            replace q1 := below_cell hw4 q1
            have bw4 := below_trans bw hw4
            replace z0 := block_lt_of_cell p0
            replace z1 := block_lt_of_cell q0
            have HR04 := Lib.hid (HR0.out.kept hw4)
            have HR14 := Lib.hid (HR1.out.kept hw4)
            clear hw4
            obtain ⟨w7, hw7⟩ : ∃ w7, w7 = (w4.alloc (.cells #[.func (.func 60) #[] #[.pointer (some ⟨w.heap.size, 0, none⟩), .pointer (some ⟨w4.heap.size, 0, none⟩), .pointer (some ⟨w.heap.size + 1, 0, none⟩)]] 87)).alloc (.cells #[.func (.func 62) #[] #[.pointer (some ⟨w.heap.size, 0, none⟩), .pointer (some ⟨w4.heap.size, 0, none⟩), .pointer (some ⟨w4.heap.size + 1, 0, none⟩)]] 89) := ⟨_, rfl⟩
            have b47 : Below w4.heap.size w4 w7 := by rw [hw7]; exact below_alloc (below_alloc (Below.refl _ _) _) _
            have hfc : w7.cell? ⟨w4.heap.size, 0, none⟩ = some (.func (.func 60) #[] #[.pointer (some ⟨w.heap.size, 0, none⟩), .pointer (some ⟨w4.heap.size, 0, none⟩), .pointer (some ⟨w.heap.size + 1, 0, none⟩)]) := by rw [hw7]; go_simp
            have hgc : w7.cell? ⟨w4.heap.size + 1, 0, none⟩ = some (.func (.func 62) #[] #[.pointer (some ⟨w.heap.size, 0, none⟩), .pointer (some ⟨w4.heap.size, 0, none⟩), .pointer (some ⟨w4.heap.size + 1, 0, none⟩)]) := by rw [hw7]; go_simp
            have s7 : w7.heap.size = w4.heap.size + 2 := by rw [hw7]; simp
            have hTA : TwoA w7 n m0 w.heap.size (w.heap.size + 1) (.slice ao0 m0 c0) (.slice ao1 m0 c1) x0 x1 := ⟨below_cell b47 p0, below_cell b47 p1, below_cell b47 q0, below_cell b47 q1, HR04.out.kept b47, HR14.out.kept b47, HGA.out, HGB.out, HM0.out.symm, HM1.out.symm⟩
            have HFIND := Lib.hid (fun g c W hb ho => find_any w7 n m0 w.heap.size (w.heap.size + 1) w4.heap.size (w4.heap.size + 1) _ _ x0 x1 hTA hfc hgc n (List.replicate n (-1)) g c W (freeN_rep n) (partP_none n) (closed_none n m0 x0 x1) hb ho)
            have HANS : Hid (∀ x, AnsP n m0 x0 x1 (List.replicate n (-1)) x → rnAns n x0 x1 = x) := fun x hx => by
              have h2 := turn_ans (a := x0) (b := x1) (n := n) (m := m0) hTA.bnd
              have h3 := AnsP.unique h2 hx
              unfold rnAns
              rw [← HM0.out, show (n : Int).toNat = n by omega]
              exact h3
            have HSM : Hid (rnSame n n x0 x1 = true) := by unfold Hid rnSame; rw [← HM0.out, ← HM1.out]; simp
            have HREP := Lib.hid (fun g W hc => repeat_any g n (-1) W (by omega) hc)
            have bw7 := below_trans bw4 b47
            have u0 := below_cell b47 p0
            have l0 : w.heap.size < w7.heap.size := block_lt_of_cell u0
            have l1 : w4.heap.size + 1 < w7.heap.size := block_lt_of_cell hgc
            have hnl : n = (List.replicate n (-1 : Int)).length := by simp
            have HNL := Lib.hid hnl
            have hny := eql_nil_yes
            have hnn := fun g c => eql_nil_no g n c
            have hw7s := bw7.size
            have HW7 := Lib.hid hw7
            clear s7 hnl hTA hw7 b47 HR04 HR14 p0 p1 q0 q1 HL1 HL2 bw4 bw
            go_upto_region 9 with fail
            rw [← HW7.out]
            clear HW7
            go_region_held3 (fun w' => Below w7.heap.size w7 w' ∧ ∀ b o, b < w7.heap.size → w'.cell? ⟨b, o, none⟩ = w7.cell? ⟨b, o, none⟩) (first | exact held_start | assumption | exact held_nx (by assumption) (by assumption) | exact held_alloc (by assumption)) (first
              | (go_simp; go_at_call 65; (with_reducible refine (HREP.out _ _ (by go_simp)).mono ?_); rintro e w8 ⟨v8, rfl, ho8, hb8⟩; obtain ⟨g8, c8, rfl, hc8⟩ := own_some ho8 (by rw [← HNL.out]; omega))
              | (go_simp; go_at_call 62; refine (HFIND.out g8 c8 w8 (And.left (by assumption)) (by unfold Ord; rw [← HNL.out] at ho8; exact own_lo ho8 (by first | omega | (simp; done) | (simp; omega)))).mono ?_; rintro e w9 ⟨x, v9, rfl, ha9, hb9, hx1, hx2⟩))
            all_goals
              have HAN := Lib.hid (HANS.out x ha9)
              rename Below w7.heap.size w7 w9 ∧ _ => hS9
              have hbw9 := below_trans bw7 hS9.1
              cases x with
              | none =>
                obtain rfl := hx1 rfl
                have HB := Lib.hid (rn_none HV.out HSM.out HAN.out)
                clear ha9 hx1 hx2 ho8
                go_wp2
                go_ret2
                exact ints2_is HB.out.1 HB.out.2 ⟨_, rfl, World.ownsRow_nil _ _ _ _, hbw9⟩
              | some r =>
                have HB := Lib.hid (rn_some HV.out HSM.out HAN.out)
                have hrl : r.length = n := ha9.iso.len
                obtain ⟨g9, c9, rfl, ho9⟩ := hx2 r rfl
                have hO9 : w9.ownsRow w.heap.size 2 1 (.slice (some ⟨g9, 0, none⟩) n c9) r.length (r.map (Value.int .i64)) := by rw [hrl]; exact own_lo ho9 hw7s
                have HO9 := Lib.hid hO9
                clear ha9 hx1 hx2 ho8 ho9 hO9 hrl
                go_wp2
                go_ret2
                exact ints2_is HB.out.1 HB.out.2 ⟨_, rfl, HO9.out, hbw9⟩
        · have hne2 : ((m0 : Int) != (m1 : Int)) = true := by simp; omega
          have HB := Lib.hid (rn_unlike HV.out (show rnSame n n x0 x1 = false by unfold rnSame; rw [← HM0.out, ← HM1.out]; simp [hl]))
          clear hl
          go_wp2
          go_region_held3 (fun w' => Below w3.heap.size w3 w' ∧ ∀ b o, b < w3.heap.size → w'.cell? ⟨b, o, none⟩ = w3.cell? ⟨b, o, none⟩) (first | exact held_start | assumption | exact held_nx (by assumption) (by assumption)) (first | (go_simp; go_at_call 59; (with_reducible refine (HL1.out _).mono ?_); rintro e w4 ⟨rfl, hb4⟩) | (go_simp; go_at_call 59; (with_reducible refine (HL2.out _).mono ?_); rintro e w4 ⟨rfl, hb4⟩))
          all_goals
            go_wp2
            go_ret2
            exact ints2_is HB.out.1 HB.out.2 ⟨_, rfl, World.ownsRow_nil _ _ _ _, below_trans bw (And.left (by assumption))⟩
      · have hne1 : ((n : Int) != (n1 : Int)) = true := by simp; omega
        have HB := Lib.hid (rn_unlike HV.out (show rnSame n n1 x0 x1 = false by unfold rnSame; rw [decide_eq_false (by omega)]; rfl))
        clear hst
        go_wp2
        go_quiet (fail)
        go_wp2
        go_ret2
        exact ints2_is HB.out.1 HB.out.2 ⟨_, rfl, World.ownsRow_nil _ _ _ _, below_drewN' bw _⟩

end Go.Proofs.Ytocdkeidjocmkaa
