/- StablePairs, of the reference and of the program. -/
import Derived.Test.YtbcfnibpdfonkaaStable
namespace Go.Proofs.Ytbcfnibpdfonkaa
set_option linter.unusedVariables false
set_option linter.unusedSimpArgs false
open Go.ChangeShapes Go.WideShapes Go.ChangeAt Go.RowKit

theorem containsFuncFlock_any (v : Value) (vs : List Value) (g : FuncId) (lb : Array Value) (q : Nat → Bool) (w : World) (h1 : Sl w v vs) (eg : ∀ args w, (callFunc g args).run Try.prog w = .ok (.enter g args) w) (hp : AsksAt g lb vs q w) :
    Calls Try.prog 150 #[v, .func (.func g) #[] lb] w (RetB (.bool (anyAt q vs.length)) w) := by
  have HC := Lib.hid (indexFuncFlock_any v vs g lb q w h1 eg hp)
  clear hp h1
  cases ha : anyAt q vs.length
  · have h := firstAt_no (anyAt_false.1 ha)
    rw [h] at HC
    clear ha h eg
    go_enter Try.func150, Try.ntmps150
    go_wp2_with fail
    refine HC.out.mono ?_
    rintro e w' ⟨rfl, hb⟩
    go_wp2
    go_ret
    exact ⟨rfl, hb⟩
  · obtain ⟨k, hk, hq⟩ := anyAt_true.1 ha
    have h : 0 ≤ firstAt q vs.length := by unfold firstAt; rw [if_pos ⟨k, hk, hq⟩]; omega
    generalize firstAt q vs.length = f at HC h
    clear ha hk hq eg
    go_enter Try.func150, Try.ntmps150
    go_wp2_with fail
    refine HC.out.mono ?_
    rintro e w' ⟨rfl, hb⟩
    go_wp2
    go_ret
    exact ⟨rfl, hb⟩

set_option maxRecDepth 100000 in
set_option maxHeartbeats 4000000 in
theorem stableLit_any (st : Int) (v : Value) (xss : List (List Int)) (n s t ba bm tg tc : Nat) (W : World) (h1 : Rows2 W v xss) (hg : Good st n xss) (ha0 : W.cell? ⟨ba, 0, none⟩ = some (.int .i64 st)) (ha1 : W.cell? ⟨ba, 1, none⟩ = some v)
    (hm : W.cell? ⟨bm, 0, none⟩ = some (.slice (some ⟨tg, 0, none⟩) n tc)) (hT : TabOf W tg n (mgW xss) (mgOk xss)) (hs : s < n) (ht : t < n) :
    Calls Try.prog 149 #[.int .i64 s, .int .i64 t, .pointer (some ⟨ba, 0, none⟩), .pointer (some ⟨bm, 0, none⟩)] W (RetB (.bool (stB xss s t)) W) := by
  have hn10 := hg.hi
  obtain ⟨ao, m, c, rfl, HM⟩ := h1.shape
  have hp := pair_u64 (s := s) (t := t) (by omega) (by omega)
  have HTR := Lib.hid (fun X (hX : Below W.heap.size W X) => tour_any st _ xss n (2 ^ s ||| 2 ^ t) X (h1.kept hX) hg (pair_lt hs ht))
  have hGT := mg_tour hg hs ht
  have e0 : stB xss s t = !(anyAt (fun k => badB (mgOk xss) ((tourOf xss (2 ^ s ||| 2 ^ t)).at k).1) (tourOf xss (2 ^ s ||| 2 ^ t)).length) := rfl
  rw [e0]
  change GoodT n (tourOf xss (2 ^ s ||| 2 ^ t)) at hGT
  generalize tourOf xss (2 ^ s ||| 2 ^ t) = T at HTR hGT ⊢
  generalize mgW xss = zs at hT
  generalize mgOk xss = ok at hT ⊢
  have HCF := Lib.hid (fun X lo lv (hX : Below W.heap.size W X) (hl : X.ownsRow lo 103 1 lv T.sets.length (flVals T.sets)) => by
    have h := containsFuncFlock_any lv (flVals T.sets) 151 #[.pointer (some ⟨bm, 0, none⟩)] (fun k => badB ok (T.at k).1) X (sl_flocks hl) (fun _ _ => by kernel_rfl) (fun k hk Y hY => by
      rw [flVals_len, Tour.sets_len] at hk
      rw [flVals_at hk]
      exact steadyLit_any (T.at k).1 bm n tg tc zs ok Y (hGT.lt _ (Tour.at_mem hk)) hn10 (below_cell hY (below_cell hX hm)) ((hT.below hX).below hY))
    rw [flVals_len, Tour.sets_len] at h
    exact h)
  generalize anyAt (fun k => badB ok (T.at k).1) T.length = bb at HCF ⊢
  have hs10 : s < 10 := by omega
  have ht10 : t < 10 := by omega
  have hza := block_lt_of_cell ha0
  have hzm := block_lt_of_cell hm
  have hfd := field_tour0
  clear e0 hT hGT h1 hg hs ht
  generalize 2 ^ s ||| 2 ^ t = ff at hp HTR
  go_enter Try.func149, Try.ntmps149
  go_wp2
  go_region_held3 (fun w' => Below W.heap.size W w' ∧ ∀ b o, b < W.heap.size → w'.cell? ⟨b, o, none⟩ = W.cell? ⟨b, o, none⟩) (first | exact held_start | assumption | exact held_nx (by assumption) (by assumption))
      (first
        | (go_simp; go_at_call 71; refine (HTR.out _ (And.left (by assumption))).mono ?_; rintro e w5 ⟨lv, mb, rfl, hol, hwm, hb5⟩; obtain ⟨a5, m5, c5, rfl, HM5⟩ := own_shape hol)
        | (go_simp; go_at_call 150; refine (HCF.out _ _ _ (And.left (by assumption)) hol).mono ?_; rintro e w6 ⟨rfl, hb6⟩))
  all_goals
    rename Below W.heap.size W w6 ∧ _ => hS
    obtain ⟨hw6, hcs⟩ := hS
    clear hcs
    go_wp2
    go_ret
    exact ⟨rfl, hw6⟩

set_option maxRecDepth 100000 in
set_option maxHeartbeats 4000000 in
theorem pairs_any (n m c : Nat) (ao : Option Addr) (g : FuncId) (lb : Array Value) (P : Nat → Nat → Bool) (w : World) (hn10 : n ≤ 10) (eg : ∀ args w, (callFunc g args).run Try.prog w = .ok (.enter g args) w)
    (hp : ∀ s t, s < n → t < n → ∀ W, Below w.heap.size w W → Calls Try.prog g (#[.int .i64 s, .int .i64 t] ++ lb) W (RetB (.bool (P s t)) W)) :
    Calls Try.prog 105 #[.agg #[.int .i64 n, .slice ao m c], .func (.func g) #[] lb] w (NewRows (pairsTo P n n) w) := by
  obtain ⟨W1, hW1⟩ : ∃ W1, W1 = w.alloc (.cells #[.int .i64 n, .slice ao m c] 26) := ⟨_, rfl⟩
  have bx : Below w.heap.size w W1 := by rw [hW1]; exact below_alloc (Below.refl _ _) _
  have p0 : W1.cell? ⟨w.heap.size, 0, none⟩ = some (.int .i64 n) := by rw [hW1]; go_simp
  have HE := Lib.hid (ownRows_empty W1 (w.heap.size + 1) (by rw [hW1]; simp))
  have hbe : Below (w.heap.size + 1) W1 (W1.alloc (.cells #[] 38)) := (Below.refl _ _).alloc (by rw [hW1]; simp) _
  have HP := Lib.hid hp
  subst hW1
  clear hp
  go_enter Try.func105, Try.ntmps105
  go_wp2
  go_loopw [5, 11] (fun u i wr => ∃ s : Nat, s ≤ n ∧ i = .int .i64 s ∧ Hid (∃ rs : List Value, OwnRows wr (w.heap.size + 1) u rs (pairsTo P n s)) ∧ Below (w.heap.size + 1) (w.alloc (.cells #[.int .i64 n, .slice ao m c] 26)) wr) (fun _ i _ => n - (intOf i).toNat)
  case atStart => exact ⟨0, Nat.zero_le _, rfl, ⟨[], by simpa [pairsTo] using HE.out⟩, hbe⟩
  case round =>
    obtain ⟨s, hs, rfl, HT, hb⟩ := hrel
    have q0 := Below.cellOf hb p0 (by omega)
    obtain ⟨rs, hT⟩ := HT.out
    obtain ⟨au, mu, cu, rfl, HMu⟩ := own_shape hT.outer
    have HT2 : Hid (∃ rs : List Value, OwnRows wr (w.heap.size + 1) (.slice au mu cu) rs (pairsUp P n s 0)) := ⟨rs, by rw [pairsUp_zero]; exact hT⟩
    have HT3 := Lib.hid hT
    clear HT hT
    by_cases hlt : s < n
    · obtain ⟨wo, rfl⟩ : ∃ wo : World, wo = wr := ⟨_, rfl⟩
      have hlow : w.heap.size + 1 ≤ wo.heap.size := by have := hb.size; simp at this; omega
      have hz0 := block_lt_of_cell q0
      have HP2 := Lib.hid (fun t (ht : t < n) => HP.out s t hlt ht)
      go_wp2
      go_loopw [5, 7] (fun u i wr => ∃ k : Nat, s + 1 + k ≤ n ∧ i = .int .i64 ((s + 1 + k : Nat) : Int) ∧ Hid (∃ rs : List Value, OwnRows wr (w.heap.size + 1) u rs (pairsUp P n s k)) ∧ Below (w.heap.size + 1) (w.alloc (.cells #[.int .i64 n, .slice ao m c] 26)) wr) (fun _ i _ => n - (intOf i).toNat)
      case atStart => exact ⟨0, by omega, by go_num, HT2.out, hb⟩
      case round =>
        obtain ⟨k, hk, rfl, HR, hb2⟩ := hrel
        have r0 := Below.cellOf hb2 p0 (by omega)
        have hbx : Below w.heap.size w wr := bx.trans (hb2.mono (by omega))
        obtain ⟨rs2, hR⟩ := HR.out
        obtain ⟨ar, mr, cr, rfl, HMr⟩ := own_shape hR.outer
        have HR2 := Lib.hid hR
        clear HR hR
        obtain ⟨t, ht⟩ : ∃ t, t = s + 1 + k := ⟨_, rfl⟩
        rw [← ht] at hk ⊢
        have HTE := Lib.hid ht
        have ht1 : t ≤ s + 1 + k := by omega
        have ht2 : s + 1 + k ≤ t := by omega
        clear ht
        by_cases hlt2 : t < n
        · have HC := Lib.hid (HP2.out t hlt2 wr hbx)
          cases hP : P s t
          · rw [hP] at HC
            have HN := Lib.hid (pairsUp_no (P := P) (n := n) (s := s) (m := k) (by rw [← HTE.out]; exact hP))
            clear hP
            go_wp2_with fail
            refine HC.out.mono ?_
            rintro e w4 ⟨rfl, hb4⟩
            have HR4 := Lib.hid (HR2.out.below hb4)
            have hb5 := hb2.trans (hb4.mono (show w.heap.size + 1 ≤ wr.heap.size by have := hb2.size; simp at this; omega))
            clear HC
            go_wp2
            go_roundw
            case rel => exact ⟨k + 1, by omega, by rw [HTE.out]; go_num, ⟨_, by rw [← HN.out]; exact HR4.out⟩, hb5⟩
            case measure => simp [intOf]; omega
          · rw [hP] at HC
            have HN := Lib.hid (pairsUp_yes (P := P) (n := n) (s := s) (m := k) (by rw [← HTE.out]; exact hP))
            have hpl := pairsUp_len (P := P) (n := n) (s := s) (m := k) hn10 hs (by omega)
            clear hP
            go_wp2_with fail
            refine HC.out.mono ?_
            rintro e w4 ⟨rfl, hb4⟩
            have hlw4 : w.heap.size + 1 ≤ wr.heap.size := by have := hb2.size; simp at this; omega
            have hb5 := hb2.trans (hb4.mono hlw4)
            have hR4 := HR2.out.below hb4
            have hap := hR4.apart_new (w := w4.alloc (.cells #[.int .i64 s, .int .i64 t] 2)) (World.ownsRow_lit (base := w4.heap.size) (size := 1) (e := 2) w4 #[.int .i64 s, .int .i64 t] 2 (Nat.le_refl _) (by unfold maxLen; omega) (by simp))
            have HLIT := Lib.hid (World.ownsRow_lit (base := w4.heap.size) (size := 1) (e := 2) w4 #[.int .i64 s, .int .i64 t] 2 (Nat.le_refl _) (by unfold maxLen; omega) (by simp))
            have HR4 := Lib.hid (hR4.alloc (.cells #[.int .i64 s, .int .i64 t] 2))
            have HAP := Lib.hid hap
            have hlw5 : w.heap.size + 1 ≤ w4.heap.size := Nat.le_trans hlw4 hb4.size
            have hb6 := hb5.alloc (show w.heap.size + 1 ≤ w4.heap.size from hlw5) (.cells #[.int .i64 s, .int .i64 t] 2)
            clear HC hap hR4
            go_wp2_with (at_builtin; refine wpList_push elem_ints rfl (.tmp 26) (.tmp 30) rfl (w.heap.size + 1) rfl HR4.out.outer (.slice (some ⟨w4.heap.size, 0, none⟩) 2 2) (by first | rfl | (show Value.slice _ 1 1 = _; simp)) rfl (by unfold maxLen; omega) (by omega) (by simp; omega) ?_; intro v6 w6 ho6 hg6 hs6)
            have hT6 := HR4.out.pushed (ys := [(s : Int), (t : Int)]) hg6 ho6 HLIT.out hlw5 HAP.out
            rw [show ([(s : Int), (t : Int)]) = [(s : Int), ((s + 1 + k : Nat) : Int)] by rw [HTE.out], HN.out] at hT6
            have HT6 := Lib.hid hT6
            have hb7 := Below.grown hb6 hg6 (by simp; omega) (fun g hg => (own_block HR4.out.outer hg).1)
            clear ho6 hg6 hs6 hT6
            go_wp2
            go_roundw
            case rel => exact ⟨k + 1, by omega, by rw [HTE.out]; go_num, ⟨_, HT6.out⟩, hb7⟩
            case measure => simp [intOf]; omega
        · have hkn : k = n - (s + 1) := by omega
          have HT4 : Hid (∃ rs : List Value, OwnRows wr (w.heap.size + 1) (.slice ar mr cr) rs (pairsTo P n (s + 1))) := ⟨_, by rw [← pairsUp_all, ← hkn]; exact HR2.out⟩
          go_wp2
          go_roundw
          case rel => exact ⟨s + 1, by omega, by go_num, HT4.out, hb2⟩
          case measure => simp [intOf]; omega
    · obtain rfl : s = n := by omega
      have hbw : Below w.heap.size w wr := bx.trans (hb.mono (by omega))
      go_wp2
      go_ret
      exact ⟨_, rs, rfl, HT3.out.mono (by omega), hbw⟩

end Go.Proofs.Ytbcfnibpdfonkaa
