/- Ranks: the least number of states of the sets of a tour. -/
import Derived.Test.YtlgnbbfhejjodaaShortest
namespace Go.Proofs.Ytlgnbbfhejjodaa
set_option linter.unusedVariables false
set_option linter.unusedSimpArgs false
open Go.ChangeShapes Go.WideShapes Go.ChangeAt Go.RowKit

def card (f : Nat) : Nat := (setTo f 10).length
def leastTo (T : Tour) (k : Nat) : Nat := (List.range k).foldl (fun o i => min o (card (T.at i).1)) (card (T.at 0).1)
theorem leastTo_zero (T : Tour) : leastTo T 0 = card (T.at 0).1 := rfl
theorem leastTo_succ (T : Tour) (k : Nat) : leastTo T (k + 1) = min (leastTo T k) (card (T.at k).1) := by simp [leastTo, List.range_succ, List.foldl_append]
theorem card_le (f : Nat) : card f ≤ 10 := setTo_le f 10
theorem leastTo_le (T : Tour) (k : Nat) : leastTo T k ≤ 10 := by
  induction k with
  | zero => rw [leastTo_zero]; exact card_le _
  | succ k ih => rw [leastTo_succ]; omega
def rankT (T : Tour) : Nat := leastTo T T.length

set_option maxRecDepth 100000 in
theorem l02Set_any (f : Nat) (w : World) (hf : f < 1024) : Calls Try.prog 104 #[.int .i64 f] w (NewInts ((setTo f 10).map fun (s : Nat) => (s : Int)) w) := by
  have HE := Lib.hid (own_empty w w.heap.size (Nat.le_refl _) 2)
  go_enter Try.func104, Try.ntmps104
  go_wp2
  go_loopw [3, 4] (fun u i wr => ∃ k : Nat, k ≤ 10 ∧ i = .int .i64 k ∧ Hid (wr.ownsRow w.heap.size 2 1 u (setTo f k).length (((setTo f k).map fun (s : Nat) => (s : Int)).map (Value.int .i64))) ∧ Below w.heap.size w wr) (fun _ i _ => 10 - (intOf i).toNat)
  case atStart => exact ⟨0, Nat.zero_le _, rfl, HE.out, below_alloc (Below.refl _ _) _⟩
  case round =>
    obtain ⟨k, hk, rfl, HO, hb⟩ := hrel
    have hle := setTo_le f k
    by_cases hlt : f < 2 ^ k
    · have hd := shr_zero hlt
      have HF := Lib.hid (setTo_eq (f := f) (k := k) (m := 10) hlt (by omega))
      clear hlt
      go_wp2
      go_ret
      refine ⟨_, rfl, ?_, hb⟩
      rw [List.length_map, ← HF.out]
      exact HO.out
    · have hd := shr_pos hlt
      have hk9 : k < 10 := by
        rcases Nat.lt_or_ge k 10 with h | h
        · exact h
        · have := Nat.pow_le_pow_right (n := 2) (by decide) h; omega
      clear hlt
      cases hb2 : f.testBit k
      · have ht := bit_i64 (k := k) hf
        rw [hb2] at ht
        have HN := Lib.hid (setTo_no hb2)
        clear hb2
        go_wp2
        go_roundw
        case rel => exact ⟨k + 1, by omega, by go_num, by rw [HN.out]; exact HO.out, hb⟩
        case measure => simp [intOf]; omega
      · have ht := bit_i64 (k := k) hf
        rw [hb2] at ht
        have HN := Lib.hid (setTo_yes hb2)
        clear hb2
        go_wp2_with (at_builtin; refine wpList_push elem_int rfl (.tmp 19) (.tmp 21) rfl w.heap.size rfl HO.out _ rfl rfl (by unfold maxLen; omega) (by omega) hb.size ?_; intro v' w6 hown' hgr hs)
        have hb6 : Below w.heap.size w w6 := Below.grown hb hgr hb.size (fun g hg => (own_block HO.out hg).1)
        have HOW := Lib.hid hown'
        clear hown' hgr hs ht hd
        go_wp2
        go_roundw
        case rel => exact ⟨k + 1, by omega, by go_num, by
          have h := HOW.out
          rw [HN.out] at h
          have hl : (setTo f (k + 1)).length = (setTo f k).length + 1 := by have := h.1; simpa using this
          rw [hl]
          exact h, hb6⟩
        case measure => simp [intOf]; omega

theorem flockCount_any (f : Nat) (w : World) (hf : f < 1024) : Calls Try.prog 143 #[.int .u64 f] w (RetB (.int .i64 (card f)) w) := by
  have HS := Lib.hid (flockSet_any f w hf)
  have HC : Hid (card f = (setTo f 10).length) := rfl
  generalize card f = cd at HC ⊢
  go_enter Try.func143, Try.ntmps143
  go_wp2_with fail
  refine HS.out.mono ?_
  rintro e w2 ⟨v, rfl, ho, hb⟩
  obtain ⟨a, m, c, rfl, HM⟩ := own_shape ho
  have HSI := Lib.hid (sizeInts_any a m c w2 (by have := HM.out; have := setTo_le f 10; simp at *; omega))
  go_wp2_with fail
  refine HSI.out.mono ?_
  rintro e w3 ⟨rfl, rfl⟩
  go_wp2
  go_ret
  exact ⟨by rw [HC.out]; have := HM.out; simp at this; rw [this]; rfl, hb⟩


theorem minI (a b : Nat) : (if (b : Int) < (a : Int) then (b : Int) else (a : Int)) = ((min a b : Nat) : Int) := by split <;> omega

set_option maxRecDepth 100000 in
theorem l03Least_any (tb lo n : Nat) (s b l : Value) (T : Tour) (bs ls : List Int) (w : World) (hw : WalkAt w lo tb s b l T bs ls) (hT : GoodT n T) (hn : n ≤ 10) (hp : 0 < T.length) :
    Calls Try.prog 57 #[.pointer (some ⟨tb, 0, none⟩)] w (RetB (.int .i64 (rankT T)) w) := by
  obtain ⟨sg, sc, rfl, hsc⟩ := own_some hw.hs hp
  have t0 : w.cell? ⟨tb, 0, none⟩ = some (.slice (some ⟨sg, 0, none⟩) T.length sc) := by have := hw.st.cellAt 0 (by omega); simpa using this
  have CS := Lib.hid (fun k (hk : k < T.length) => walk_set hw hk)
  have HST := Lib.hid (fun k (hk : k < T.length) W => l02Set_any (T.at k).1 W (hT.lt10 hn hk))
  have hlen := hT.len10 hn
  clear hw hT
  have i0 := idx_of Try.underlying117 size1_i (ao := some ⟨sg, 0, none⟩) (b := sg) (o := 0) (n := T.length) (c := sc) (fun _ => rfl) hp .i64
  rw [Nat.zero_add] at i0
  have d0 := CS.out 0 hp
  go_enter Try.func57, Try.ntmps57
  go_wp2_with fail
  refine (HST.out 0 hp _).mono ?_
  rintro e w2 ⟨v, rfl, ho, hb⟩
  obtain ⟨a2, m2, c2, rfl, HM2⟩ := own_shape ho
  have hm2 : m2 = leastTo T 0 := by have := HM2.out; simpa [leastTo_zero, card] using this
  clear ho d0
  subst hm2
  go_wp2
  go_loopw [3, 4] (fun o i wr => ∃ k : Nat, k ≤ T.length ∧ i = .int .i64 k ∧ o = .int .i64 (leastTo T k) ∧ Below w.heap.size w wr) (fun _ i _ => T.length - (intOf i).toNat)
  case atStart => exact ⟨0, Nat.zero_le _, rfl, rfl, hb⟩
  case round =>
    obtain ⟨k, hk, rfl, rfl, hbr⟩ := hrel
    replace t0 := below_cell hbr t0
    by_cases hlt : k < T.length
    · have i1 := idx_of Try.underlying117 size1_i (ao := some ⟨sg, 0, none⟩) (b := sg) (o := 0) (n := T.length) (c := sc) (fun _ => rfl) hlt .i64
      rw [Nat.zero_add] at i1
      have d3 := below_cell hbr (CS.out k hlt)
      have HSK := Lib.hid (HST.out k hlt)
      have HNX := Lib.hid (leastTo_succ T k)
      go_wp2_with fail
      refine (HSK.out _).mono ?_
      rintro e w3 ⟨v, rfl, ho, hb3⟩
      obtain ⟨a3, m3, c3, rfl, HM3⟩ := own_shape ho
      have hm3 : m3 = card (T.at k).1 := by have := HM3.out; simpa [card] using this
      have hbb := below_trans hbr hb3
      clear ho
      subst hm3
      by_cases hcmp : card (T.at k).1 < leastTo T k
      · skip
        have HV : Hid (leastTo T (k + 1) = card (T.at k).1) := by rw [HNX.out]; show min _ _ = _; omega
        go_wp2
        go_roundw
        case rel => exact ⟨k + 1, by omega, by go_num, by rw [HV.out], hbb⟩
        case measure => simp [intOf]; omega
      · skip
        have HV : Hid (leastTo T (k + 1) = leastTo T k) := by rw [HNX.out]; show min _ _ = _; omega
        go_wp2
        go_roundw
        case rel => exact ⟨k + 1, by omega, by go_num, by rw [HV.out], hbb⟩
        case measure => simp [intOf]; omega
    · obtain rfl : k = T.length := by omega
      go_wp2
      go_ret
      exact ⟨rfl, hbr⟩

theorem outerT_zero (rows : List (List Int)) (f : Nat) : ∀ i, (outerT rows f i).at 0 = (f, []) := by
  intro i
  induction i with
  | zero => rfl
  | succ i ih =>
    rw [outerT_succ]
    unfold roundT
    split
    · rw [innerT_at _ _ _ _ (outerT_pos rows f i), ih]
    · exact ih
theorem tourOf_zero (rows : List (List Int)) (f : Nat) : (tourOf rows f).at 0 = (f, []) := outerT_zero rows f 1024

theorem field_tour0 (a b : Value) : ∀ w, Sem.run Try.prog (Instr.field 80 (.agg #[a, b]) 0) w = .ok a w := fun _ => by kernel_rfl

set_option maxRecDepth 100000 in
set_option maxHeartbeats 4000000 in
theorem least_any (st : Int) (v : Value) (xss : List (List Int)) (n f : Nat) (w : World) (h1 : Rows2 w v xss) (hg : Good st n xss) (hf : f < 2 ^ n) :
    Calls Try.prog 112 #[.agg #[.int .i64 st, v], .int .u64 f] w (RetB (.int .i64 (rankT (tourOf xss f))) w) := by
  have hn := hg.hi
  have hT := GoodT.outer hg.rows hg.len3 hf 1024
  change GoodT n (tourOf xss f) at hT
  have hp := outerT_pos xss f 1024
  change 0 < (tourOf xss f).length at hp
  have h0 := tourOf_zero xss f
  obtain ⟨ao, m, c, rfl, HM⟩ := h1.shape
  have bx : Below w.heap.size w (w.alloc (.cells #[.int .i64 st, .slice ao m c] 28)) := below_alloc (Below.refl _ _) _
  have f10 : f < 1024 := Nat.lt_of_lt_of_le hf (Nat.pow_le_pow_right (by decide) hn)
  have HCF := Lib.hid (fun W => flockCount_any f W f10)
  have HCO := Lib.hid (fun k (hk : k < (tourOf xss f).length) W => flockCount_any ((tourOf xss f).at k).1 W (hT.lt10 hn hk))
  have HTR := Lib.hid (fun W (hW : Below w.heap.size w W) => tour_any st _ xss n f W (h1.kept hW) hg hf)
  have hlen := hT.len10 hn
  generalize tourOf xss f = T at HTR hT hp h0 HCO hlen ⊢
  have H00 : Hid (leastTo T 0 = card f) := by rw [leastTo_zero, h0]; rfl
  clear h1 hg hf h0
  go_enter Try.func112, Try.ntmps112
  go_wp2_with fail
  refine (HCF.out _).mono ?_
  rintro e w2 ⟨rfl, hb⟩
  have p0 : w2.cell? ⟨w.heap.size, 0, none⟩ = some (.int .i64 st) := below_cell hb (by go_simp)
  have p1 : w2.cell? ⟨w.heap.size, 1, none⟩ = some (.slice ao m c) := below_cell hb (by go_simp)
  have bw2 := below_trans bx hb
  rw [← H00.out]
  go_wp2_with fail
  refine (HTR.out _ bw2).mono ?_
  rintro e w3 ⟨lv, mb, rfl, hol, hwm, hb3⟩
  obtain ⟨lg, lc, rfl, hlc⟩ := own_some hol (by rw [Tour.sets_len]; exact hp)
  rw [Tour.sets_len] at hol
  have CL := Lib.hid (fun k (hk : k < T.length) => show w3.cell? ⟨lg, k, none⟩ = some (.int .u64 ((T.at k).1 : Int)) by
    rw [hol.cellAt k (by omega), flVals_get (by rw [Tour.sets_len]; exact hk), Tour.sets_at hk])
  rw [Tour.sets_len]
  have bw3 := below_trans bw2 hb3
  clear hwm hol
  have hfd := field_tour0 (.slice (some ⟨lg, 0, none⟩) T.length lc) (.map (some mb))
  go_wp2
  go_loopw [5, 15] (fun o i wr => ∃ k : Nat, k ≤ T.length ∧ i = .int .i64 k ∧ o = .int .i64 (leastTo T k) ∧ Below w3.heap.size w3 wr) (fun _ i _ => T.length - (intOf i).toNat)
  case atStart => exact ⟨0, Nat.zero_le _, rfl, rfl, Below.refl _ _⟩
  case round =>
    obtain ⟨k, hk, rfl, rfl, hbr⟩ := hrel
    by_cases hlt : k < T.length
    · have i1 := idx_of Try.underlying77 size1_flock (ao := some ⟨lg, 0, none⟩) (b := lg) (o := 0) (n := T.length) (c := lc) (fun _ => rfl) hlt .i64
      rw [Nat.zero_add] at i1
      have d3 := below_cell hbr (CL.out k hlt)
      have HSK := Lib.hid (HCO.out k hlt)
      have HNX := Lib.hid (leastTo_succ T k)
      go_wp2_with fail
      refine (HSK.out _).mono ?_
      rintro e w4 ⟨rfl, hb4⟩
      have hbb := below_trans hbr hb4
      have HV : Hid ((if card (T.at k).1 < leastTo T k then ((card (T.at k).1 : Nat) : Int) else ((leastTo T k : Nat) : Int)) = ((leastTo T (k + 1) : Nat) : Int)) := by
        rw [HNX.out]; show _ = ((min _ _ : Nat) : Int); split <;> omega
      go_wp2
      go_roundw
      case rel => exact ⟨k + 1, by omega, by go_num, by rw [HV.out], hbb⟩
      case measure => simp [intOf]; omega
    · obtain rfl : k = T.length := by omega
      go_wp2
      go_ret
      exact ⟨rfl, below_trans bw3 hbr⟩

theorem held3_start {w0 W : World} {a b : Addr} {x y : Value} (h : Below w0.heap.size w0 W) (hx : W.cell? a = some x) (hy : W.cell? b = some y) : Below w0.heap.size w0 W.drew ∧ W.drew.cell? a = some x ∧ W.drew.cell? b = some y := ⟨h.drew, hx, hy⟩
theorem held3_next {w0 W W' : World} {a b o q : Nat} {x y : Value} (h : Below w0.heap.size w0 W ∧ W.cell? ⟨a, o, none⟩ = some x ∧ W.cell? ⟨b, q, none⟩ = some y) (hb : Below W.heap.size W W') : Below w0.heap.size w0 W' ∧ W'.cell? ⟨a, o, none⟩ = some x ∧ W'.cell? ⟨b, q, none⟩ = some y := ⟨below_trans h.1 hb, below_cell hb h.2.1, below_cell hb h.2.2⟩

set_option maxRecDepth 100000 in
set_option maxHeartbeats 4000000 in
theorem rank_any (st : Int) (v : Value) (xss : List (List Int)) (n : Nat) (w : World) (h1 : Rows2 w v xss) (hg : Good st n xss) :
    Calls Try.prog 62 #[.agg #[.int .i64 st, v]] w (RetB (.int .i64 (rankT (tourOf xss (2 ^ n - 1)))) w) := by
  have hn10 := hg.hi
  obtain ⟨ao, m, c, rfl, HM⟩ := h1.shape
  have bx : Below w.heap.size w (w.alloc (.cells #[.int .i64 st, .slice ao m c] 28)) := below_alloc (Below.refl _ _) _
  have HAL := Lib.hid (fun W => autoAll_any st n m c ao W hg.st hn10)
  have HFO := Lib.hid (fun (u : Value) W (hi : Ints W u ((List.range n).map fun (s : Nat) => (s : Int))) => flockOf_any u _ W hi (range_in hn10))
  rw [full_bits] at HFO
  have HLE := Lib.hid (fun W (hW : Below w.heap.size w W) => least_any st _ xss n (2 ^ n - 1) W (h1.kept hW) hg hg.full)
  generalize rankT (tourOf xss (2 ^ n - 1)) = rk at HLE ⊢
  generalize 2 ^ n - 1 = full at HFO HLE
  clear h1 hg
  have HST0 : Hid (Below w.heap.size w (w.alloc (.cells #[.int .i64 st, .slice ao m c] 28)).drew ∧ (w.alloc (.cells #[.int .i64 st, .slice ao m c] 28)).drew.cell? ⟨w.heap.size, 0, none⟩ = some (.int .i64 st) ∧ (w.alloc (.cells #[.int .i64 st, .slice ao m c] 28)).drew.cell? ⟨w.heap.size, 1, none⟩ = some (.slice ao m c)) :=
    held3_start bx (by go_simp) (by go_simp)
  go_enter Try.func62, Try.ntmps62
  go_wp2
  go_region_held3 (fun w' => Below w.heap.size w w' ∧ w'.cell? ⟨w.heap.size, 0, none⟩ = some (.int .i64 st) ∧ w'.cell? ⟨w.heap.size, 1, none⟩ = some (.slice ao m c)) (first | exact HST0.out | assumption | exact held3_next (by assumption) (by assumption))
      (first
        | (go_simp; go_at_call 68; refine (HAL.out _).mono ?_; rintro e w3 ⟨v3, rfl, ho3, hb3⟩; obtain ⟨a3, m3, c3, rfl, HM3⟩ := own_shape ho3)
        | (go_simp; go_at_call 67; refine (HFO.out _ _ (ints_of_own ho3)).mono ?_; rintro e w4 ⟨rfl, rfl⟩)
        | (go_simp; go_at_call 112; refine (HLE.out _ (And.left (by assumption))).mono ?_; rintro e w5 ⟨rfl, hb5⟩))
  rename Below w.heap.size w w5 ∧ _ => hS
  obtain ⟨hw5, hcs⟩ := hS
  clear hcs
  go_wp2
  go_ret
  exact ⟨rfl, hw5⟩

def rkOf (st : Int) (xss : List (List Int)) : Nat := if validB st xss = true then rankT (allTour st xss) else 0
def rkCd (st : Int) (xss : List (List Int)) : Int := if validB st xss = true then 0 else 1

set_option maxRecDepth 100000 in
set_option maxHeartbeats 4000000 in
theorem implRankOf_any (st : Int) (v : Value) (xss : List (List Int)) (w : World) (h1 : Rows2 w v xss) :
    Calls Try.prog 18 #[.agg #[.int .i64 st, v]] w (RetB (.tuple #[.int .i64 (rkOf st xss), .int .i64 (rkCd st xss)]) w) := by
  obtain ⟨ao, m, c, rfl, HM⟩ := h1.shape
  obtain ⟨W1, hW1⟩ : ∃ W1, W1 = w.alloc (.cells #[.int .i64 st, .slice ao m c] 28) := ⟨_, rfl⟩
  have bx : Below w.heap.size w W1 := by rw [hW1]; exact below_alloc (Below.refl _ _) _
  have p0 : W1.cell? ⟨w.heap.size, 0, none⟩ = some (.int .i64 st) := by rw [hW1]; go_simp
  have p1 : W1.cell? ⟨w.heap.size, 1, none⟩ = some (.slice ao m c) := by rw [hW1]; go_simp
  have HOK := Lib.hid (validAuto_any st _ xss W1 (h1.kept bx))
  cases hv : validB st xss
  · rw [show rkOf st xss = 0 by simp [rkOf, hv], show rkCd st xss = 1 by simp [rkCd, hv]]
    rw [hv] at HOK
    subst hW1
    clear hv h1
    go_enter Try.func18, Try.ntmps18
    go_wp2_with fail
    refine HOK.out.mono ?_
    rintro e w2 ⟨rfl, hb⟩
    go_wp2
    go_ret2
    exact ⟨rfl, below_trans bx hb⟩
  · obtain ⟨n, hg⟩ := good_of hv
    rw [show rkOf st xss = rankT (tourOf xss (2 ^ n - 1)) by simp [rkOf, hv, hg.allTour], show rkCd st xss = 0 by simp [rkCd, hv]]
    rw [hv] at HOK
    have HRK := Lib.hid (fun W (hW : Below w.heap.size w W) => rank_any st _ xss n W (h1.kept hW) hg)
    generalize rankT (tourOf xss (2 ^ n - 1)) = rk at HRK ⊢
    subst hW1
    clear hv h1 hg
    go_enter Try.func18, Try.ntmps18
    go_wp2_with fail
    refine HOK.out.mono ?_
    rintro e w2 ⟨rfl, hb⟩
    replace p0 := below_cell hb p0
    replace p1 := below_cell hb p1
    have bw2 := below_trans bx hb
    go_wp2_with fail
    refine (HRK.out _ bw2).mono ?_
    rintro e w3 ⟨rfl, hb3⟩
    have bw3 := below_trans bw2 hb3
    go_wp2
    go_ret2
    exact ⟨rfl, bw3⟩

set_option maxRecDepth 100000 in
set_option maxHeartbeats 4000000 in
theorem specRankOf_any (st : Int) (v : Value) (xss : List (List Int)) (w : World) (h1 : Rows2 w v xss) :
    Calls Try.prog 16 #[.agg #[.int .i64 st, v]] w (RetB (.tuple #[.int .i64 (rkOf st xss), .int .i64 (rkCd st xss)]) w) := by
  obtain ⟨ao, m, c, rfl, HM⟩ := h1.shape
  obtain ⟨W1, hW1⟩ : ∃ W1, W1 = w.alloc (.cells #[.int .i64 st, .slice ao m c] 28) := ⟨_, rfl⟩
  have bx : Below w.heap.size w W1 := by rw [hW1]; exact below_alloc (Below.refl _ _) _
  have p0 : W1.cell? ⟨w.heap.size, 0, none⟩ = some (.int .i64 st) := by rw [hW1]; go_simp
  have p1 : W1.cell? ⟨w.heap.size, 1, none⟩ = some (.slice ao m c) := by rw [hW1]; go_simp
  have HOK := Lib.hid (l01Ok_any w.heap.size 0 st _ xss W1 p0 p1 (h1.kept bx))
  cases hv : validB st xss
  · rw [show rkOf st xss = 0 by simp [rkOf, hv], show rkCd st xss = 1 by simp [rkCd, hv]]
    rw [hv] at HOK
    subst hW1
    clear hv h1
    go_enter Try.func16, Try.ntmps16
    go_wp2_with fail
    refine HOK.out.mono ?_
    rintro e w2 ⟨rfl, hq⟩
    have hb := hq.below (w.alloc (.cells #[.int .i64 st, .slice ao m c] 28)).heap.size
    go_wp2
    go_ret2
    exact ⟨rfl, below_trans bx hb⟩
  · obtain ⟨n, hg⟩ := good_of hv
    rw [show rkOf st xss = rankT (tourOf xss (2 ^ n - 1)) by simp [rkOf, hv, hg.allTour], show rkCd st xss = 0 by simp [rkCd, hv]]
    rw [hv] at HOK
    obtain rfl := hg.st
    have HFU := Lib.hid (fun W (hW : Below W1.heap.size W1 W) => l02Full_any w.heap.size n W (below_cell hW p0) hg.hi)
    have HFR := Lib.hid (fun W (hW : Below W1.heap.size W1 W) => l02From_any w.heap.size n _ xss n (2 ^ n - 1) W (below_cell hW p0) (below_cell hW p1) ((h1.kept bx).kept hW) hg hg.full)
    have hT := hg.tour
    have hp := outerT_pos xss (2 ^ n - 1) 1024
    change 0 < (tourOf xss (2 ^ n - 1)).length at hp
    generalize tourOf xss (2 ^ n - 1) = T at HFR hT hp ⊢
    have HLE := Lib.hid (fun tb lo s b l bs ls w2 (hw : WalkAt w2 lo tb s b l T bs ls) => l03Least_any tb lo n s b l T bs ls w2 hw hT hg.hi hp)
    generalize rankT T = rk at HLE ⊢
    generalize 2 ^ n - 1 = full at HFU HFR
    subst hW1
    clear hv h1 hg
    go_enter Try.func16, Try.ntmps16
    go_wp2_with fail
    refine HOK.out.mono ?_
    rintro e w2 ⟨rfl, hq⟩
    have hb := hq.below (w.alloc (.cells #[.int .i64 n, .slice ao m c] 28)).heap.size
    go_wp2_with fail
    refine (HFU.out _ hb).mono ?_
    rintro e w3 ⟨rfl, rfl⟩
    go_wp2_with fail
    refine (HFR.out _ hb).mono ?_
    rintro e w4 ⟨tb, s, bv, l, bs, ls, rfl, hw, hb4⟩
    go_wp2_with fail
    refine (HLE.out _ _ _ _ _ _ _ _ hw).mono ?_
    rintro e w5 ⟨rfl, hb5⟩
    have hbb := below_trans bx (below_trans hb (below_trans hb4 hb5))
    clear hw
    go_wp2
    go_ret2
    exact ⟨rfl, hbb⟩

end Go.Proofs.Ytlgnbbfhejjodaa
