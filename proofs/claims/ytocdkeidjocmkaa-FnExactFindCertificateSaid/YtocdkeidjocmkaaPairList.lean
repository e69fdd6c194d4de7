/- The pairs of states of which something is so; the program's pairs, the reference's l02Pairs. -/
import Derived.Test.YtocdkeidjocmkaaPairs
namespace Go.Proofs.Ytocdkeidjocmkaa
set_option linter.unusedVariables false
set_option linter.unusedSimpArgs false
open Go.ChangeShapes Go.WideShapes Go.ChangeAt Go.RowKit

/-- the pairs (s, t), s < t, of which something is so -/
def pairRow (P : Nat → Nat → Bool) (s m : Nat) : List (List Int) := ((List.range m).filter fun j => P s (s + 1 + j)).map fun j => [(s : Int), ((s + 1 + j : Nat) : Int)]
def pairsTo (P : Nat → Nat → Bool) (n : Nat) : Nat → List (List Int)
  | 0 => []
  | s + 1 => pairsTo P n s ++ pairRow P s (n - (s + 1))
def pairsUp (P : Nat → Nat → Bool) (n s m : Nat) : List (List Int) := pairsTo P n s ++ pairRow P s m
theorem pairsUp_zero (P : Nat → Nat → Bool) (n s : Nat) : pairsUp P n s 0 = pairsTo P n s := by simp [pairsUp, pairRow]
theorem pairsUp_all (P : Nat → Nat → Bool) (n s : Nat) : pairsUp P n s (n - (s + 1)) = pairsTo P n (s + 1) := rfl
theorem pairsUp_yes {P : Nat → Nat → Bool} {n s m : Nat} (h : P s (s + 1 + m) = true) : pairsUp P n s m ++ [[(s : Int), ((s + 1 + m : Nat) : Int)]] = pairsUp P n s (m + 1) := by
  unfold pairsUp pairRow
  rw [List.range_succ, List.filter_append, List.map_append]
  simp [h]
theorem pairsUp_no {P : Nat → Nat → Bool} {n s m : Nat} (h : P s (s + 1 + m) = false) : pairsUp P n s m = pairsUp P n s (m + 1) := by
  unfold pairsUp pairRow
  rw [List.range_succ, List.filter_append, List.map_append]
  simp [h]
theorem pairRow_len (P : Nat → Nat → Bool) (s m : Nat) : (pairRow P s m).length ≤ m := by
  unfold pairRow
  rw [List.length_map]
  exact Nat.le_trans (List.length_filter_le _ _) (by simp)
theorem pairsTo_len (P : Nat → Nat → Bool) (n : Nat) : ∀ s, (pairsTo P n s).length ≤ s * n := by
  intro s
  induction s with
  | zero => simp [pairsTo]
  | succ s ih =>
    have := pairRow_len P s (n - (s + 1))
    rw [pairsTo, List.length_append, Nat.succ_mul]
    omega
theorem pairsUp_len {P : Nat → Nat → Bool} {n s m : Nat} (hn : n ≤ 10) (hs : s ≤ n) (hm : m ≤ n) : (pairsUp P n s m).length ≤ 200 := by
  have h1 := pairsTo_len P n s
  have h2 := pairRow_len P s m
  have h3 : s * n ≤ 10 * 10 := Nat.mul_le_mul (by omega) hn
  unfold pairsUp
  rw [List.length_append]
  omega
theorem pairRow_in (P : Nat → Nat → Bool) (s m : Nat) : ∀ l ∈ pairRow P s m, l.length = 2 := by
  intro l hl
  unfold pairRow at hl
  rw [List.mem_map] at hl
  obtain ⟨j, _, rfl⟩ := hl
  rfl
theorem pairsTo_in (P : Nat → Nat → Bool) (n : Nat) : ∀ s, ∀ l ∈ pairsTo P n s, l.length = 2 := by
  intro s
  induction s with
  | zero => intro l hl; simp [pairsTo] at hl
  | succ s ih =>
    intro l hl
    rw [pairsTo, List.mem_append] at hl
    rcases hl with hl | hl
    · exact ih l hl
    · exact pairRow_in P s _ l hl
theorem bulk_two : ∀ (l : List (List Int)), (∀ x ∈ l, x.length = 2) → bulk2 l = 2 * l.length := by
  intro l
  induction l with
  | nil => intro _; rfl
  | cons a l ih =>
    intro h
    have h1 := ih fun x hx => h x (List.mem_cons_of_mem _ hx)
    have h2 := h a (List.mem_cons_self ..)
    unfold bulk2 at h1 ⊢
    rw [List.map_cons, List.sum_cons, h1, h2, List.length_cons]
    omega

set_option maxRecDepth 100000 in
set_option maxHeartbeats 4000000 in
theorem pairs_any (n m c : Nat) (ao : Option Addr) (g : FuncId) (lb : Array Value) (P : Nat → Nat → Bool) (w : World) (hn10 : n ≤ 10) (eg : ∀ args w, (callFunc g args).run Try.prog w = .ok (.enter g args) w)
    (hp : ∀ s t, s < n → t < n → ∀ W, Below w.heap.size w W → Calls Try.prog g (#[.int .i64 s, .int .i64 t] ++ lb) W (RetB (.bool (P s t)) W)) :
    Calls Try.prog 53 #[.agg #[.int .i64 n, .slice ao m c], .func (.func g) #[] lb] w (NewRows (pairsTo P n n) w) := by
  obtain ⟨W1, hW1⟩ : ∃ W1, W1 = w.alloc (.cells #[.int .i64 n, .slice ao m c] 44) := ⟨_, rfl⟩
  have bx : Below w.heap.size w W1 := by rw [hW1]; exact below_alloc (Below.refl _ _) _
  have p0 : W1.cell? ⟨w.heap.size, 0, none⟩ = some (.int .i64 n) := by rw [hW1]; go_simp
  have HE := Lib.hid (ownRows_empty W1 (w.heap.size + 1) (by rw [hW1]; simp))
  have hbe : Below (w.heap.size + 1) W1 (W1.alloc (.cells #[] 55)) := (Below.refl _ _).alloc (by rw [hW1]; simp) _
  have HP := Lib.hid hp
  subst hW1
  clear hp
  go_enter Try.func53, Try.ntmps53
  go_wp2
  go_loopw [5, 11] (fun u i wr => ∃ s : Nat, s ≤ n ∧ i = .int .i64 s ∧ Hid (∃ rs : List Value, OwnRows wr (w.heap.size + 1) u rs (pairsTo P n s)) ∧ Below (w.heap.size + 1) (w.alloc (.cells #[.int .i64 n, .slice ao m c] 44)) wr) (fun _ i _ => n - (intOf i).toNat)
  case atStart => exact ⟨0, Nat.zero_le _, rfl, ⟨[], by simpa [pairsTo] using HE.out⟩, hbe⟩
  case round =>
    obtain ⟨s, hs, rfl, HT, hb⟩ := hrel
    have q0 := Below.cellOf hb p0 (by omega)
    obtain ⟨rs, hT⟩ := HT.out
    obtain ⟨au, mu, cu, rfl, HMu⟩ := own_shape hT.outer
    have HT2 : Hid (∃ rs : List Value, OwnRows wr (w.heap.size + 1) (.slice au mu cu) rs (pairsUp P n s 0)) := ⟨rs, by rw [pairsUp_zero]; exact hT⟩
    have HT3 := Lib.hid hT
    clear HT hT
    by_cases hlt : s < n
    · obtain ⟨wo, rfl⟩ : ∃ wo : World, wo = wr := ⟨_, rfl⟩
      have hlow : w.heap.size + 1 ≤ wo.heap.size := by have := hb.size; simp at this; omega
      have hz0 := block_lt_of_cell q0
      have HP2 := Lib.hid (fun t (ht : t < n) => HP.out s t hlt ht)
      go_wp2
      go_loopw [5, 7] (fun u i wr => ∃ k : Nat, s + 1 + k ≤ n ∧ i = .int .i64 ((s + 1 + k : Nat) : Int) ∧ Hid (∃ rs : List Value, OwnRows wr (w.heap.size + 1) u rs (pairsUp P n s k)) ∧ Below (w.heap.size + 1) (w.alloc (.cells #[.int .i64 n, .slice ao m c] 44)) wr) (fun _ i _ => n - (intOf i).toNat)
      case atStart => exact ⟨0, by omega, by go_num, HT2.out, hb⟩
      case round =>
        obtain ⟨k, hk, rfl, HR, hb2⟩ := hrel
        have r0 := Below.cellOf hb2 p0 (by omega)
        have hbx : Below w.heap.size w wr := bx.trans (hb2.mono (by omega))
        obtain ⟨rs2, hR⟩ := HR.out
        obtain ⟨ar, mr, cr, rfl, HMr⟩ := own_shape hR.outer
        have HR2 := Lib.hid hR
        clear HR hR
        obtain ⟨t, ht⟩ : ∃ t, t = s + 1 + k := ⟨_, rfl⟩
        rw [← ht] at hk ⊢
        have HTE := Lib.hid ht
        have ht1 : t ≤ s + 1 + k := by omega
        have ht2 : s + 1 + k ≤ t := by omega
        clear ht
        by_cases hlt2 : t < n
        · have HC := Lib.hid (HP2.out t hlt2 wr hbx)
          cases hP : P s t
          · rw [hP] at HC
            have HN := Lib.hid (pairsUp_no (P := P) (n := n) (s := s) (m := k) (by rw [← HTE.out]; exact hP))
            clear hP
            go_wp2_with fail
            refine HC.out.mono ?_
            rintro e w4 ⟨rfl, hb4⟩
            have HR4 := Lib.hid (HR2.out.below hb4)
            have hb5 := hb2.trans (hb4.mono (show w.heap.size + 1 ≤ wr.heap.size by have := hb2.size; simp at this; omega))
            clear HC
            go_wp2
            go_roundw
            case rel => exact ⟨k + 1, by omega, by rw [HTE.out]; go_num, ⟨_, by rw [← HN.out]; exact HR4.out⟩, hb5⟩
            case measure => simp [intOf]; omega
          · rw [hP] at HC
            have HN := Lib.hid (pairsUp_yes (P := P) (n := n) (s := s) (m := k) (by rw [← HTE.out]; exact hP))
            have hpl := pairsUp_len (P := P) (n := n) (s := s) (m := k) hn10 hs (by omega)
            clear hP
            go_wp2_with fail
            refine HC.out.mono ?_
            rintro e w4 ⟨rfl, hb4⟩
            have hlw4 : w.heap.size + 1 ≤ wr.heap.size := by have := hb2.size; simp at this; omega
            have hb5 := hb2.trans (hb4.mono hlw4)
            have hR4 := HR2.out.below hb4
            have hap := hR4.apart_new (w := w4.alloc (.cells #[.int .i64 s, .int .i64 t] 2)) (World.ownsRow_lit (base := w4.heap.size) (size := 1) (e := 2) w4 #[.int .i64 s, .int .i64 t] 2 (Nat.le_refl _) (by unfold maxLen; omega) (by simp))
            have HLIT := Lib.hid (World.ownsRow_lit (base := w4.heap.size) (size := 1) (e := 2) w4 #[.int .i64 s, .int .i64 t] 2 (Nat.le_refl _) (by unfold maxLen; omega) (by simp))
            have HR4 := Lib.hid (hR4.alloc (.cells #[.int .i64 s, .int .i64 t] 2))
            have HAP := Lib.hid hap
            have hlw5 : w.heap.size + 1 ≤ w4.heap.size := Nat.le_trans hlw4 hb4.size
            have hb6 := hb5.alloc (show w.heap.size + 1 ≤ w4.heap.size from hlw5) (.cells #[.int .i64 s, .int .i64 t] 2)
            clear HC hap hR4
            go_wp2_with (at_builtin; refine wpList_push elem_ints rfl (.tmp 26) (.tmp 30) rfl (w.heap.size + 1) rfl HR4.out.outer (.slice (some ⟨w4.heap.size, 0, none⟩) 2 2) (by first | rfl | (show Value.slice _ 1 1 = _; simp)) rfl (by unfold maxLen; omega) (by omega) (by simp; omega) ?_; intro v6 w6 ho6 hg6 hs6)
            have hT6 := HR4.out.pushed (ys := [(s : Int), (t : Int)]) hg6 ho6 HLIT.out hlw5 HAP.out
            rw [show ([(s : Int), (t : Int)]) = [(s : Int), ((s + 1 + k : Nat) : Int)] by rw [HTE.out], HN.out] at hT6
            have HT6 := Lib.hid hT6
            have hb7 := Below.grown hb6 hg6 (by simp; omega) (fun g hg => (own_block HR4.out.outer hg).1)
            clear ho6 hg6 hs6 hT6
            go_wp2
            go_roundw
            case rel => exact ⟨k + 1, by omega, by rw [HTE.out]; go_num, ⟨_, HT6.out⟩, hb7⟩
            case measure => simp [intOf]; omega
        · have hkn : k = n - (s + 1) := by omega
          have HT4 : Hid (∃ rs : List Value, OwnRows wr (w.heap.size + 1) (.slice ar mr cr) rs (pairsTo P n (s + 1))) := ⟨_, by rw [← pairsUp_all, ← hkn]; exact HR2.out⟩
          go_wp2
          go_roundw
          case rel => exact ⟨s + 1, by omega, by go_num, HT4.out, hb2⟩
          case measure => simp [intOf]; omega
    · obtain rfl : s = n := by omega
      have hbw : Below w.heap.size w wr := bx.trans (hb.mono (by omega))
      go_wp2
      go_ret
      exact ⟨_, rs, rfl, HT3.out.mono (by omega), hbw⟩


set_option maxRecDepth 100000 in
set_option maxHeartbeats 4000000 in
theorem l02Pairs_any (n : Nat) (w : World) (hn10 : n ≤ 10) : Calls Try.prog 48 #[.int .i64 n] w (NewRows (pairsTo (fun _ _ => true) n n) w) := by
  have HE := Lib.hid (ownRows_empty w w.heap.size (Nat.le_refl _))
  have hbe : Below w.heap.size w (w.alloc (.cells #[] 55)) := below_alloc (Below.refl _ _) _
  go_enter Try.func48, Try.ntmps48
  go_wp2
  go_loopw [3, 4] (fun u i wr => ∃ s : Nat, s ≤ n ∧ i = .int .i64 s ∧ Hid (∃ rs : List Value, OwnRows wr w.heap.size u rs (pairsTo (fun _ _ => true) n s)) ∧ Below w.heap.size w wr) (fun _ i _ => n - (intOf i).toNat)
  case atStart => exact ⟨0, Nat.zero_le _, rfl, ⟨[], by simpa [pairsTo] using HE.out⟩, hbe⟩
  case round =>
    obtain ⟨s, hs, rfl, HT, hb⟩ := hrel
    obtain ⟨rs, hT⟩ := HT.out
    obtain ⟨au, mu, cu, rfl, HMu⟩ := own_shape hT.outer
    have HT2 : Hid (∃ rs : List Value, OwnRows wr w.heap.size (.slice au mu cu) rs (pairsUp (fun _ _ => true) n s 0)) := ⟨rs, by rw [pairsUp_zero]; exact hT⟩
    have HT3 := Lib.hid hT
    clear HT hT
    by_cases hlt : s < n
    · obtain ⟨wo, rfl⟩ : ∃ wo : World, wo = wr := ⟨_, rfl⟩
      have hlow := hb.size
      go_wp2
      go_loopw [3, 5] (fun u i wr => ∃ k : Nat, s + 1 + k ≤ n ∧ i = .int .i64 ((s + 1 + k : Nat) : Int) ∧ Hid (∃ rs : List Value, OwnRows wr w.heap.size u rs (pairsUp (fun _ _ => true) n s k)) ∧ Below w.heap.size w wr) (fun _ i _ => n - (intOf i).toNat)
      case atStart => exact ⟨0, by omega, by go_num, HT2.out, hb⟩
      case round =>
        obtain ⟨k, hk, rfl, HR, hb2⟩ := hrel
        obtain ⟨rs2, hR⟩ := HR.out
        obtain ⟨ar, mr, cr, rfl, HMr⟩ := own_shape hR.outer
        have HR2 := Lib.hid hR
        clear HR
        obtain ⟨t, ht⟩ : ∃ t, t = s + 1 + k := ⟨_, rfl⟩
        rw [← ht] at hk ⊢
        have HTE := Lib.hid ht
        have ht1 : t ≤ s + 1 + k := by omega
        have ht2 : s + 1 + k ≤ t := by omega
        clear ht
        by_cases hlt2 : t < n
        · have HN := Lib.hid (pairsUp_yes (P := fun _ _ => true) (n := n) (s := s) (m := k) rfl)
          have hpl := pairsUp_len (P := fun _ _ => true) (n := n) (s := s) (m := k) hn10 hs (by omega)
          have hlw5 := hb2.size
          have hap := hR.apart_new (w := wr.alloc (.cells #[.int .i64 s, .int .i64 t] 2)) (World.ownsRow_lit (base := wr.heap.size) (size := 1) (e := 2) wr #[.int .i64 s, .int .i64 t] 2 (Nat.le_refl _) (by unfold maxLen; omega) (by simp))
          have HLIT := Lib.hid (World.ownsRow_lit (base := wr.heap.size) (size := 1) (e := 2) wr #[.int .i64 s, .int .i64 t] 2 (Nat.le_refl _) (by unfold maxLen; omega) (by simp))
          have HR4 := Lib.hid (hR.alloc (.cells #[.int .i64 s, .int .i64 t] 2))
          have HAP := Lib.hid hap
          have hb6 := hb2.alloc hlw5 (.cells #[.int .i64 s, .int .i64 t] 2)
          clear hap hR
          go_wp2_with (at_builtin; refine wpList_push elem_ints rfl (.tmp 19) (.tmp 23) rfl w.heap.size rfl HR4.out.outer (.slice (some ⟨wr.heap.size, 0, none⟩) 2 2) (by first | rfl | (show Value.slice _ 1 1 = _; simp)) rfl (by unfold maxLen; omega) (by omega) (by simp; omega) ?_; intro v6 w6 ho6 hg6 hs6)
          have hT6 := HR4.out.pushed (ys := [(s : Int), (t : Int)]) hg6 ho6 HLIT.out hlw5 HAP.out
          rw [show ([(s : Int), (t : Int)]) = [(s : Int), ((s + 1 + k : Nat) : Int)] by rw [HTE.out], HN.out] at hT6
          have HT6 := Lib.hid hT6
          have hb7 := Below.grown hb6 hg6 (by simp; omega) (fun g hg => (own_block HR4.out.outer hg).1)
          clear ho6 hg6 hs6 hT6
          go_wp2
          go_roundw
          case rel => exact ⟨k + 1, by omega, by rw [HTE.out]; go_num, ⟨_, HT6.out⟩, hb7⟩
          case measure => simp [intOf]; omega
        · have hkn : k = n - (s + 1) := by omega
          have HT4 : Hid (∃ rs : List Value, OwnRows wr w.heap.size (.slice ar mr cr) rs (pairsTo (fun _ _ => true) n (s + 1))) := ⟨_, by rw [← pairsUp_all, ← hkn]; exact HR2.out⟩
          clear hkn hR
          go_wp2
          go_roundw
          case rel => exact ⟨s + 1, by omega, by go_num, HT4.out, hb2⟩
          case measure => simp [intOf]; omega
    · obtain rfl : s = n := by omega
      go_wp2
      go_ret
      exact ⟨_, rs, rfl, HT3.out, hb⟩

end Go.Proofs.Ytocdkeidjocmkaa
