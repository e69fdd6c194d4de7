/- RankWord, of the reference and of the program. -/
import Derived.Test.YtbcfnibpdfonkaaRank
namespace Go.Proofs.Ytbcfnibpdfonkaa
set_option linter.unusedVariables false
set_option linter.unusedSimpArgs false
open Go.ChangeShapes Go.WideShapes Go.ChangeAt Go.RowKit

/-- does a set have so many states? -/
def cardB (r f : Nat) : Bool := card f == r
theorem leastTo_met (T : Tour) (hp : 0 < T.length) : ∀ k, k ≤ T.length → ∃ j, j < T.length ∧ leastTo T k = card (T.at j).1 := by
  intro k
  induction k with
  | zero => intro _; exact ⟨0, hp, rfl⟩
  | succ k ih =>
    intro hk
    obtain ⟨j, hj, e⟩ := ih (by omega)
    rw [leastTo_succ, e]
    by_cases h : card (T.at j).1 ≤ card (T.at k).1
    · exact ⟨j, hj, by omega⟩
    · exact ⟨k, by omega, by omega⟩
theorem rank_first (T : Tour) (hp : 0 < T.length) : (firstT (cardB (rankT T)) T).isSome = true := by
  obtain ⟨j, hj, e⟩ := leastTo_met T hp T.length (Nat.le_refl _)
  unfold firstT
  rw [List.find?_isSome]
  exact ⟨T.at j, Tour.at_mem hj, by unfold cardB rankT; rw [e]; simp⟩
def rwZs (st : Int) (xss : List (List Int)) : List Int := if validB st xss = true then wordP (cardB (rankT (allTour st xss))) (allTour st xss) else []
theorem rwZs_len (st : Int) (xss : List (List Int)) : (rwZs st xss).length ≤ 1024 := by
  unfold rwZs
  split
  · rename_i hv
    obtain ⟨n, hg⟩ := good_of hv
    rw [hg.allTour]
    exact wordP_len hg.tour hg.hi
  · simp

set_option maxRecDepth 100000 in
set_option maxHeartbeats 4000000 in
theorem specRankWord_any (st : Int) (v : Value) (xss : List (List Int)) (w : World) (h1 : Rows2 w v xss) :
    Calls Try.prog 30 #[.agg #[.int .i64 st, v]] w (NewInts2 (rwZs st xss) (rkCd st xss) w) := by
  obtain ⟨ao, m, c, rfl, HM⟩ := h1.shape
  obtain ⟨W1, hW1⟩ : ∃ W1, W1 = w.alloc (.cells #[.int .i64 st, .slice ao m c] 26) := ⟨_, rfl⟩
  have bx : Below w.heap.size w W1 := by rw [hW1]; exact below_alloc (Below.refl _ _) _
  have p0 : W1.cell? ⟨w.heap.size, 0, none⟩ = some (.int .i64 st) := by rw [hW1]; go_simp
  have p1 : W1.cell? ⟨w.heap.size, 1, none⟩ = some (.slice ao m c) := by rw [hW1]; go_simp
  have HOK := Lib.hid (l01Ok_any w.heap.size 0 st _ xss W1 p0 p1 (h1.kept bx))
  cases hv : validB st xss
  · rw [show rwZs st xss = [] by simp [rwZs, hv], show rkCd st xss = 1 by simp [rkCd, hv]]
    rw [hv] at HOK
    subst hW1
    clear hv h1
    go_enter Try.func30, Try.ntmps30
    go_wp2_with fail
    refine HOK.out.mono ?_
    rintro e w2 ⟨rfl, hq⟩
    have hb := hq.below (w.alloc (.cells #[.int .i64 st, .slice ao m c] 26)).heap.size
    have HE := Lib.hid (own_empty w2 w.heap.size (by have := hb.size; simp at this; omega) 2)
    go_wp2
    go_ret2
    exact ⟨_, rfl, HE.out, below_trans bx (below_trans hb (below_alloc (Below.refl _ _) _))⟩
  · obtain ⟨n, hg⟩ := good_of hv
    rw [show rwZs st xss = wordP (cardB (rankT (tourOf xss (2 ^ n - 1)))) (tourOf xss (2 ^ n - 1)) by unfold rwZs; rw [if_pos hv, hg.allTour], show rkCd st xss = 0 by simp [rkCd, hv]]
    rw [hv] at HOK
    obtain rfl := hg.st
    have hn10 := hg.hi
    have HFU := Lib.hid (fun W (hW : Below W1.heap.size W1 W) => l02Full_any w.heap.size n W (below_cell hW p0) hg.hi)
    have HFR := Lib.hid (fun W (hW : Below W1.heap.size W1 W) => l02From_any w.heap.size n _ xss n (2 ^ n - 1) W (below_cell hW p0) (below_cell hW p1) ((h1.kept bx).kept hW) hg hg.full)
    have hT := hg.tour
    have hp := outerT_pos xss (2 ^ n - 1) 1024
    change 0 < (tourOf xss (2 ^ n - 1)).length at hp
    generalize tourOf xss (2 ^ n - 1) = T at HFR hT hp ⊢
    have hlen := hT.len10 hn10
    have HLE := Lib.hid (fun tb lo s b l bs ls w2 (hw : WalkAt w2 lo tb s b l T bs ls) => l03Least_any tb lo n s b l T bs ls w2 hw hT hg.hi hp)
    have HSET := Lib.hid (fun k (hk : k < T.length) W => l02Set_any (T.at k).1 W (hT.lt10 hn10 hk))
    have HRF := Lib.hid (rank_first T hp)
    obtain ⟨rk, hrk⟩ : ∃ rk, rk = rankT T := ⟨_, rfl⟩
    rw [← hrk] at HLE HRF ⊢
    generalize 2 ^ n - 1 = full at HFU HFR
    have E1 : Hid (W1.heap.size = w.heap.size + 1) := by unfold Hid; rw [hW1]; simp
    subst hW1
    clear hv h1 hg hrk hT
    go_enter Try.func30, Try.ntmps30
    go_wp2_with fail
    refine HOK.out.mono ?_
    rintro e w2 ⟨rfl, hq⟩
    have hb := hq.below (w.alloc (.cells #[.int .i64 n, .slice ao m c] 26)).heap.size
    go_wp2_with fail
    refine (HFU.out _ hb).mono ?_
    rintro e w3 ⟨rfl, rfl⟩
    go_wp2_with fail
    refine (HFR.out _ hb).mono ?_
    rintro e w4 ⟨tb, s, bv, l, bs, ls, rfl, hw, hb4⟩
    obtain ⟨sg, sc, rfl, hsc⟩ := own_some hw.hs hp
    have HWA := Lib.hid hw
    have t0 : w4.cell? ⟨tb, 0, none⟩ = some (.slice (some ⟨sg, 0, none⟩) T.length sc) := by have := hw.st.cellAt 0 (by omega); simpa using this
    have CS := Lib.hid (fun k (hk : k < T.length) => walk_set hw hk)
    go_wp2_with fail
    refine (HLE.out _ _ _ _ _ _ _ _ hw).mono ?_
    rintro e w5 ⟨rfl, hb5⟩
    have hbb := below_trans bx (below_trans hb hb4)
    have hlo : w.heap.size ≤ w2.heap.size := by have := hb.size; rw [E1.out] at this; omega
    clear hw HLE HFU HFR HOK
    go_wp2
    go_loopw [6] (fun i wr => ∃ k : Nat, k ≤ T.length ∧ i = .int .i64 k ∧ Hid (∀ j, j < k → cardB rk (T.at j).1 = false) ∧ Below w4.heap.size w4 wr) (fun i _ => T.length - (intOf i).toNat)
    case atStart => exact ⟨0, Nat.zero_le _, rfl, fun j hj => absurd hj (by omega), hb5⟩
    case round =>
      obtain ⟨k, hk, rfl, hno, hbr⟩ := hrel
      have t1 := below_cell hbr t0
      by_cases hlt : k < T.length
      · have i1 := idx_of Try.underlying89 size1_i (ao := some ⟨sg, 0, none⟩) (b := sg) (o := 0) (n := T.length) (c := sc) (fun _ => rfl) hlt .i64
        rw [Nat.zero_add] at i1
        have d3 := below_cell hbr (CS.out k hlt)
        have HSK := Lib.hid (HSET.out k hlt)
        obtain ⟨fk, hfk⟩ : ∃ fk, fk = (T.at k).1 := ⟨_, rfl⟩
        rw [← hfk] at d3 HSK
        have HFK := Lib.hid hfk
        clear hfk
        go_wp2_with fail
        refine (HSK.out _).mono ?_
        rintro e w6 ⟨v6, rfl, ho6, hb6⟩
        obtain ⟨a6, m6, c6, rfl, HM6⟩ := own_shape ho6
        have hm6 : m6 = card fk := by have := HM6.out; simpa [card] using this
        have hb46 := below_trans hbr hb6
        clear ho6
        subst hm6
        cases hc : cardB rk fk
        · have hne : ((card fk : Int) == (rk : Int)) = false := by
            have : card fk ≠ rk := by simpa [cardB] using hc
            simp; omega
          have HC := Lib.hid hc
          clear hc
          go_wp2
          go_roundw
          case rel => exact ⟨k + 1, by omega, by go_num, fun j hj => by
            rcases Nat.lt_or_ge j k with h | h
            · exact hno.out j h
            · obtain rfl : j = k := by omega
              rw [← HFK.out]; exact HC.out, hb46⟩
          case measure => simp [intOf]; omega
        · have hne : ((card fk : Int) == (rk : Int)) = true := by
            have : card fk = rk := by simpa [cardB] using hc
            simp; omega
          have hft := firstT_yes hlt (by rw [← HFK.out]; exact hc) hno.out
          have HWP : Hid (wordP (cardB rk) T = (T.at k).2) := by unfold Hid wordP; rw [hft]; rfl
          have HWK := Lib.hid (word_any tb w2.heap.size k _ _ _ T bs ls w6 (HWA.out.below hb46) hlt hlen)
          clear hc hft
          go_wp2_with fail
          refine HWK.out.mono ?_
          rintro e w7 ⟨vw, rfl, ho7, hb7⟩
          have HO7 := Lib.hid ho7
          have hb47 := below_trans hb46 hb7
          have hs6 := hb46.size
          have hs4 := hb4.size
          clear ho7
          go_wp2
          go_ret2
          exact ⟨_, rfl, by rw [HWP.out]; exact own_lo HO7.out (by omega), below_trans hbb hb47⟩
      · exfalso
        have hft := firstT_no (p := cardB rk) (T := T) (fun j hj => hno.out j (by omega))
        have := HRF.out
        rw [hft] at this
        cases this

theorem held4_start {w0 W : World} {a b c : Addr} {x y z : Value} (h : Below w0.heap.size w0 W) (hx : W.cell? a = some x) (hy : W.cell? b = some y) (hz : W.cell? c = some z) : Below w0.heap.size w0 W.drew ∧ W.drew.cell? a = some x ∧ W.drew.cell? b = some y ∧ W.drew.cell? c = some z := ⟨h.drew, hx, hy, hz⟩
theorem held4_nx {w0 W W' : World} {a b c o q r : Nat} {x y z : Value} (hb : Below W.heap.size W W') (h : Below w0.heap.size w0 W ∧ W.cell? ⟨a, o, none⟩ = some x ∧ W.cell? ⟨b, q, none⟩ = some y ∧ W.cell? ⟨c, r, none⟩ = some z) : Below w0.heap.size w0 W' ∧ W'.cell? ⟨a, o, none⟩ = some x ∧ W'.cell? ⟨b, q, none⟩ = some y ∧ W'.cell? ⟨c, r, none⟩ = some z :=
  ⟨below_trans h.1 hb, below_cell hb h.2.1, below_cell hb h.2.2.1, below_cell hb h.2.2.2⟩

theorem rankLit_any (f r b : Nat) (W : World) (hf : f < 1024) (hc : W.cell? ⟨b, 0, none⟩ = some (.int .i64 r)) : Calls Try.prog 85 #[.int .u64 f, .pointer (some ⟨b, 0, none⟩)] W (RetB (.bool (cardB r f)) W) := by
  have HC := Lib.hid (fun X => flockCount_any f X hf)
  have e : cardB r f = ((card f : Int) == (r : Int)) := by unfold cardB; rw [Bool.eq_iff_iff, beq_iff_eq, beq_iff_eq]; omega
  rw [e]
  have hz := block_lt_of_cell hc
  generalize card f = cd at HC ⊢
  clear e
  go_enter Try.func85, Try.ntmps85
  go_wp2
  go_region_held3 (fun w' => Below W.heap.size W w' ∧ ∀ b o, b < W.heap.size → w'.cell? ⟨b, o, none⟩ = W.cell? ⟨b, o, none⟩) (first | exact held_start | assumption | exact held_nx (by assumption) (by assumption)) (first | (go_simp; go_at_call 86; refine (HC.out _).mono ?_; rintro e w4 ⟨rfl, hb4⟩))
  rename Below W.heap.size W w4 ∧ _ => hS
  obtain ⟨hw4, hcs⟩ := hS
  clear hcs
  go_wp2
  go_ret
  exact ⟨rfl, hw4⟩

set_option maxRecDepth 100000 in
set_option maxHeartbeats 4000000 in
theorem implRankWord_any (st : Int) (v : Value) (xss : List (List Int)) (w : World) (h1 : Rows2 w v xss) :
    Calls Try.prog 31 #[.agg #[.int .i64 st, v]] w (NewInts2 (rwZs st xss) (rkCd st xss) w) := by
  obtain ⟨ao, m, c, rfl, HM⟩ := h1.shape
  obtain ⟨W1, hW1⟩ : ∃ W1, W1 = w.alloc (.cells #[.int .i64 st, .slice ao m c] 26) := ⟨_, rfl⟩
  have bx : Below w.heap.size w W1 := by rw [hW1]; exact below_alloc (Below.refl _ _) _
  have p0 : W1.cell? ⟨w.heap.size, 0, none⟩ = some (.int .i64 st) := by rw [hW1]; go_simp
  have p1 : W1.cell? ⟨w.heap.size, 1, none⟩ = some (.slice ao m c) := by rw [hW1]; go_simp
  have HOK := Lib.hid (validAuto_any st _ xss W1 (h1.kept bx))
  cases hv : validB st xss
  · rw [show rwZs st xss = [] by simp [rwZs, hv], show rkCd st xss = 1 by simp [rkCd, hv]]
    rw [hv] at HOK
    subst hW1
    clear hv h1
    go_enter Try.func31, Try.ntmps31
    go_wp2_with fail
    refine HOK.out.mono ?_
    rintro e w2 ⟨rfl, hb⟩
    go_wp2
    go_ret2
    exact ⟨_, rfl, World.ownsRow_nil _ _ _ _, below_trans bx hb⟩
  · obtain ⟨n, hg⟩ := good_of hv
    rw [show rwZs st xss = wordP (cardB (rankT (tourOf xss (2 ^ n - 1)))) (tourOf xss (2 ^ n - 1)) by unfold rwZs; rw [if_pos hv, hg.allTour], show rkCd st xss = 0 by simp [rkCd, hv]]
    rw [hv] at HOK
    have hn10 := hg.hi
    have HAL := Lib.hid (fun W => autoAll_any st n m c ao W hg.st hn10)
    have HFO := Lib.hid (fun (u : Value) W (hi : Ints W u ((List.range n).map fun (s : Nat) => (s : Int))) => flockOf_any u _ W hi (range_in hn10))
    rw [full_bits] at HFO
    have HTR := Lib.hid (fun W (hW : Below w.heap.size w W) => tour_any st _ xss n (2 ^ n - 1) W (h1.kept hW) hg hg.full)
    have HRK := Lib.hid (fun W (hW : Below w.heap.size w W) => rank_any st _ xss n W (h1.kept hW) hg)
    have hT := hg.tour
    have hp := outerT_pos xss (2 ^ n - 1) 1024
    change 0 < (tourOf xss (2 ^ n - 1)).length at hp
    generalize tourOf xss (2 ^ n - 1) = T at HTR HRK hT hp ⊢
    generalize 2 ^ n - 1 = full at HFO HTR
    have hcd : codeP (cardB (rankT T)) T = 0 := by unfold codeP; rw [rank_first T hp, if_pos rfl]
    have HFI := Lib.hid (fun rb W lo mb lv (hc : W.cell? ⟨rb, 0, none⟩ = some (.int .i64 (rankT T))) (hl : W.ownsRow lo 103 1 lv T.sets.length (flVals T.sets)) (hw : WordMap W lo mb T) => first_any T n lo mb lv 85 #[.pointer (some ⟨rb, 0, none⟩)] (cardB (rankT T)) W hT hn10 hl hw (fun _ _ => by kernel_rfl)
      (fun k hk W' hW' => rankLit_any _ (rankT T) rb W' (hT.lt10 hn10 hk) (below_cell hW' hc)))
    rw [hcd] at HFI
    generalize rankT T = rk at HRK HFI ⊢
    have e1 : W1.heap.size = w.heap.size + 1 := by rw [hW1]; simp
    have E1 := Lib.hid e1
    subst hW1
    clear hv h1 hg hT e1 hcd
    go_enter Try.func31, Try.ntmps31
    go_wp2_with fail
    refine HOK.out.mono ?_
    rintro e w2 ⟨rfl, hb⟩
    replace p0 := below_cell hb p0
    replace p1 := below_cell hb p1
    have bw2 := below_trans bx hb
    have hz2 := block_lt_of_cell p0
    go_wp2_with fail
    refine (HRK.out _ bw2).mono ?_
    rintro e w3 ⟨rfl, hb3⟩
    replace p0 := below_cell hb3 p0
    replace p1 := below_cell hb3 p1
    have bw3 := below_trans bw2 hb3
    have HST0 : Hid (Below w.heap.size w (w3.alloc (.cells #[.int .i64 rk] 2)).drew ∧ (w3.alloc (.cells #[.int .i64 rk] 2)).drew.cell? ⟨w.heap.size, 0, none⟩ = some (.int .i64 st) ∧ (w3.alloc (.cells #[.int .i64 rk] 2)).drew.cell? ⟨w.heap.size, 1, none⟩ = some (.slice ao m c) ∧ (w3.alloc (.cells #[.int .i64 rk] 2)).drew.cell? ⟨w3.heap.size, 0, none⟩ = some (.int .i64 rk)) :=
      held4_start (below_alloc bw3 _) (below_cell (below_alloc (Below.refl _ _) _) p0) (below_cell (below_alloc (Below.refl _ _) _) p1) (by go_simp)
    clear hb hb3
    go_wp2
    go_region_held3 (fun w' => Below w.heap.size w w' ∧ w'.cell? ⟨w.heap.size, 0, none⟩ = some (.int .i64 st) ∧ w'.cell? ⟨w.heap.size, 1, none⟩ = some (.slice ao m c) ∧ w'.cell? ⟨w3.heap.size, 0, none⟩ = some (.int .i64 rk)) (first | exact HST0.out | assumption | exact held4_nx (by assumption) (by assumption))
      (first
        | (go_simp; go_at_call 73; refine (HAL.out _).mono ?_; rintro e w4 ⟨v3, rfl, ho3, hb3⟩; obtain ⟨a3, m3, c3, rfl, HM3⟩ := own_shape ho3)
        | (go_simp; go_at_call 72; refine (HFO.out _ _ (ints_of_own ho3)).mono ?_; rintro e w5 ⟨rfl, rfl⟩)
        | (go_simp; go_at_call 71; refine (HTR.out _ (And.left (by assumption))).mono ?_; rintro e w6 ⟨lv, mb, rfl, hol, hwm, hb5⟩; obtain ⟨a5, m5, c5, rfl, HM5⟩ := own_shape hol)
        | (go_simp; go_at_call 84; refine (HFI.out _ _ _ _ _ (And.right (And.right (And.right (by assumption)))) hol hwm).mono ?_; rintro e w7 ⟨v6, rfl, ho6, hb6⟩; obtain ⟨a6, m6, c6, rfl, HM6⟩ := own_shape ho6))
    all_goals
      rename Below w.heap.size w w7 ∧ _ => hS
      obtain ⟨hw7, hcs⟩ := hS
      clear hcs
      go_wp2
      go_ret2
      exact ⟨_, rfl, own_lo ho6 (by have := bw3.size; have q3 := hb3.size; rw [show (w3.alloc (.cells #[.int .i64 rk] 2)).drew.heap.size = w3.heap.size + 1 by simp] at q3; omega), hw7⟩

end Go.Proofs.Ytbcfnibpdfonkaa
