/- survey, of the program: the rank of a colouring. -/
import Derived.Test.YtlgnbbfhejjodaaSurveyLaw
import Derived.Test.YtlgnbbfhejjodaaPaintGood
import Derived.Laws.CopyRow
namespace Go.Proofs.Ytlgnbbfhejjodaa
set_option linter.unusedVariables false
set_option linter.unusedSimpArgs false
open Go.ChangeShapes Go.WideShapes Go.ChangeAt Go.RowKit

theorem zero128 : Try.zeroCells152.toList = List.replicate 128 (.int .i16 0) := by kernel_rfl
theorem zero128_size : Try.zeroCells152.size = 128 := by kernel_rfl
theorem far_store {W : World} {g : Nat} (hg : W.heap[g]? = some (.cells Try.zeroCells152 152 (0, 0))) : (storeCells ⟨g, 0, none⟩ Try.zeroCells152.toList).run Try.prog W = .ok () W := by
  have h := run_storeCells_at (P := Try.prog) g 0 152 Try.zeroCells152.toList 0 _ W hg (by simp) (by rw [zero128]; intro v hv; rw [(List.mem_replicate.1 hv).2]; rfl)
  rw [h]
  congr 1
  simp only [Nat.add_zero, List.take_zero, List.nil_append, Nat.zero_add, Array.length_toList]
  rw [List.drop_of_length_le (by simp), List.append_nil, Array.toArray_toList]
  exact setRow_self W g _ _ _ hg
/-- how far the sets lie, as cells -/
def farV (F : Nat → Int) : List Value := (List.range 128).map fun j => .int .i16 (F j)
theorem farV_get {F : Nat → Int} {j : Nat} (h : j < 128) : (farV F)[j]? = some (.int .i16 (F j)) := by simp [farV, h]
theorem farV_set (F : Nat → Int) (k : Nat) (z : Int) : (farV F).set k (.int .i16 z) = farV (fun j => if j = k then z else F j) := by
  refine List.ext_getElem (by simp [farV]) fun j h1 h2 => ?_
  rw [List.getElem_set]
  simp only [farV, List.getElem_map, List.getElem_range]
  by_cases e : k = j
  · subst e; simp
  · rw [if_neg e, if_neg (fun h => e h.symm)]
theorem farV_zero : Try.zeroCells152.toList = farV (fun j => if j < 0 then -1 else 0) := by
  rw [zero128]
  refine List.ext_getElem (by simp only [List.length_replicate, farV, List.length_map, List.length_range]) fun j h1 h2 => ?_
  simp only [List.getElem_replicate, farV, List.getElem_map, List.getElem_range]
  rw [if_neg (by omega)]
theorem farV_step (k : Nat) : (fun j : Nat => if j = k then (-1 : Int) else if j < k then -1 else 0) = fun j => if j < k + 1 then -1 else 0 := by
  funext j
  by_cases e : j = k
  · subst e; simp
  · rw [if_neg e]
    by_cases h : j < k
    · rw [if_pos h, if_pos (by omega)]
    · rw [if_neg h, if_neg (by omega)]

theorem farV_congr {F G : Nat → Int} (h : ∀ j, j < 128 → F j = G j) : farV F = farV G := by
  unfold farV
  exact List.map_congr_left fun j hj => by rw [h j (List.mem_range.1 hj)]
/-- the survey under way: what has been reached lies in the queue, and how far -/
structure SvAt (W0 wr : World) (fb : Nat) (q : Value) (F : Nat → Int) (T : Tour) : Prop where
  far : wr.ownsRow fb 152 1 (.slice (some ⟨fb, 0, none⟩) 128 128) 128 (farV F)
  seen : ∀ j, F j < 0 ↔ j ∉ T.sets
  lo : ∀ j, -1 ≤ F j
  hi : ∀ j, F j < T.length
  que : wr.ownsRow fb 83 1 q T.sets.length (flVals T.sets)
  below : Below fb W0 wr
theorem Tour.sets_snoc (T : Tour) (s : Nat) (w : List Int) : Tour.sets (T ++ [(s, w)]) = T.sets ++ [s] := by simp [Tour.sets]
theorem SvAt.give {W0 wr w6 : World} {fb : Nat} {q q6 : Value} {F : Nat → Int} {T : Tour} {f s : Nat} {wd : List Int} (h : SvAt W0 wr fb q F T) (hl : fb ≤ wr.heap.size) (hs : s ∉ T.sets) (hs7 : s < 128) (hf : f ∈ T.sets)
    (hq : (wr.setCell ⟨fb, s, none⟩ (.int .i16 (F f + 1))).grownBy w6 q.ownBlock) (ho : w6.ownsRow fb 83 1 q6 (T.sets.length + 1) (flVals T.sets ++ [.int .u64 (s : Int)])) :
    SvAt W0 w6 fb q6 (fun j => if j = s then F f + 1 else F j) (T ++ [(s, wd)]) := by
  have hst := h.far.stored s (.int .i16 (F f + 1))
  have hqo := own_grown h.que h.far hst.2 rfl (by decide)
  have hfr := own_grown hst.1 hqo hq rfl (by decide)
  refine ⟨?_, fun j => ?_, fun j => ?_, fun j => ?_, ?_, ?_⟩
  · rw [← farV_set]; exact hfr
  · rw [Tour.sets_snoc, List.mem_append, List.mem_singleton]
    have hff : ¬ F f < 0 := fun e => (h.seen f).1 e hf
    by_cases e : j = s
    · subst e; simp; omega
    · rw [if_neg e, h.seen j]
      simp [e]
  · have := h.lo f; have := h.lo j
    show -1 ≤ if j = s then F f + 1 else F j
    split <;> omega
  · have := h.hi f; have := h.hi j
    rw [List.length_append, List.length_singleton]
    show (if j = s then F f + 1 else F j) < _
    split <;> omega
  · rw [Tour.sets_snoc, List.length_append, List.length_singleton, ← flVals_snoc]; exact ho
  · refine Below.grown (h.below.grown hst.2 hl fun g hg => by cases hg; exact Nat.le_refl _) hq (by simp; omega) fun g hg => (own_block h.que hg).1

theorem pop_u64 {r : Nat} (h : r < 128) (h0 : 0 < r) : bits .and .u64 (r : Int) (IntKind.u64.wrap ((r : Int) - 1)) = ((r &&& (r - 1) : Nat) : Int) := by
  have e : IntKind.u64.wrap ((r : Int) - 1) = ((r - 1 : Nat) : Int) := by rw [wrap_u64_in _ (by omega) (by omega)]; omega
  rw [e, and_u64 (by omega) (by omega)]
theorem full_u64 {n : Nat} (h : n < 40) : IntKind.u64.wrap (IntKind.u64.wrap ((2 : Int) ^ n) - 1) = ((2 ^ n - 1 : Nat) : Int) := by
  rw [wrap_pow_u64 h]
  have h1 := Nat.two_pow_pos n
  have h2 := pow_small h
  rw [wrap_u64_in _ (by omega) (by omega)]
  omega

theorem wrap_i16_in (z : Int) (h : -32768 ≤ z) (h2 : z < 32768) : IntKind.i16.wrap z = z := by simp [IntKind.wrap, IntKind.bits, IntKind.signed]; omega

set_option maxRecDepth 100000 in
set_option maxHeartbeats 4000000 in
theorem survey_any (st : Int) (v : Value) (xss : List (List Int)) (n : Nat) (w : World) (h1 : Rows2 w v xss) (hg : Good st n xss) (hn7 : n ≤ 7) :
    Calls Try.prog 124 #[.agg #[.int .i64 st, v]] w fun e w' => ∃ l : Int, e = .returned (.tuple #[.int .i64 (rankT (tourOf xss (2 ^ n - 1))), .int .i64 l]) ∧ Below w.heap.size w w' := by
  obtain ⟨ao, b, o, c, H⟩ := h1.open
  have hv := H.val
  subst hv
  obtain rfl := hg.st
  have A1 := H.adr
  have hm := H.len
  have HROW := Lib.hid H.cell
  have hfull := full_u64 (n := n) (by omega)
  have HG := Lib.hid hg
  have hfl : 2 ^ n - 1 < 2 ^ n := by have := Nat.two_pow_pos n; omega
  have hf0 : 0 < 2 ^ n - 1 := by have h := Nat.pow_le_pow_right (n := 2) (by decide) hg.lo; omega
  have hf7 : 2 ^ n - 1 < 128 := by have h := Nat.pow_le_pow_right (n := 2) (by decide) hn7; omega
  have HGT := Lib.hid (fun i => GoodT.outer hg.rows hg.len3 hfl i)
  have HER := Lib.hid (fun i => rank_early hg.rows hg.len3 hn7 hfl hf0 (i := i))
  have HCF : Hid (leastTo (outerT xss (2 ^ n - 1) 0) 0 = n) := by
    unfold Hid
    rw [leastTo_zero, outerT_zero]
    exact card_full n (by omega)
  have HPT := Lib.hid (fun i => PosT.outer hg.rows hg.len3 hfl hf0 i)
  have HS0 : Hid ((outerT xss (2 ^ n - 1) 0).sets = [2 ^ n - 1]) := rfl
  have HWD := Lib.hid (fun x (hx : x < xss.length) => hg.rows.row hx)
  have hl3 := hg.len3
  generalize 2 ^ n - 1 = full at hfull hfl hf0 hf7 HGT HER HCF HPT HS0 ⊢
  have hsc := far_store (W := (w.alloc (.cells #[.int .i64 (n : Int), .slice ao xss.length c] 28)).alloc (.cells Try.zeroCells152 152)) (g := w.heap.size + 1) (by
    have h := heap_alloc_new (w.alloc (.cells #[.int .i64 (n : Int), .slice ao xss.length c] 28)) (.cells Try.zeroCells152 152)
    rw [show (w.alloc (.cells #[.int .i64 (n : Int), .slice ao xss.length c] 28)).heap.size = w.heap.size + 1 by simp] at h
    exact h)
  clear h1 H hg
  go_enter Try.func124, Try.ntmps124
  go_wp2
  have hbx : Below w.heap.size w (w.alloc (.cells #[.int .i64 (n : Int), .slice ao xss.length c] 28)) := below_alloc (Below.refl _ _) _
  have x0 : (w.alloc (.cells #[.int .i64 (n : Int), .slice ao xss.length c] 28)).cell? ⟨w.heap.size, 0, none⟩ = some (.int .i64 n) := by go_simp
  have x1 : (w.alloc (.cells #[.int .i64 (n : Int), .slice ao xss.length c] 28)).cell? ⟨w.heap.size, 1, none⟩ = some (.slice ao xss.length c) := by go_simp
  have hs0 : (w.alloc (.cells #[.int .i64 (n : Int), .slice ao xss.length c] 28)).heap.size = w.heap.size + 1 := by simp
  generalize w.alloc (.cells #[.int .i64 (n : Int), .slice ao xss.length c] 28) = W0 at hbx x0 x1 hs0 ⊢
  have hfar := World.ownsRow_lit (base := w.heap.size + 1) (size := 1) (e := 152) W0 Try.zeroCells152 128 (by omega) (by unfold maxLen; omega) (by rw [zero128_size])
  rw [hs0, farV_zero] at hfar
  have hb0 : Below (w.heap.size + 1) W0 (W0.alloc (.cells Try.zeroCells152 152)) := by have h := below_alloc (Below.refl W0.heap.size W0) (.cells Try.zeroCells152 152); rw [hs0] at h; exact h
  generalize W0.alloc (.cells Try.zeroCells152 152) = W1 at hfar hb0 ⊢
  generalize hfb : w.heap.size + 1 = fb at hfar hb0 hs0 ⊢
  have hfb2 : w.heap.size < fb := by omega
  have HFAR := Lib.hid hfar
  have HS0' := Lib.hid hs0
  clear hfar hfb hs0 hsc
  go_loopw [23] (fun i wr => ∃ k : Nat, k ≤ 128 ∧ i = .int .i64 k ∧ Hid (wr.ownsRow fb 152 1 (.slice (some ⟨fb, 0, none⟩) 128 128) 128 (farV (fun j => if j < k then -1 else 0))) ∧ Below fb W0 wr) (fun i _ => 128 - (intOf i).toNat)
  case atStart => exact ⟨0, Nat.zero_le _, rfl, HFAR.out, hb0⟩
  case round =>
    obtain ⟨k, hk, rfl, HO, hb⟩ := hrel
    by_cases hlt : k < 128
    · have e1 := HO.out.cellAt k (by omega)
      rw [farV_get hlt] at e1
      have f1 := HO.out.frozenAt k
      have l1 := block_lt_of_cell e1
      have hst := HO.out.stored k (.int .i16 (-1))
      rw [farV_set, farV_step] at hst
      have HST := Lib.hid hst
      clear hst
      go_wp2
      go_roundw
      case rel => exact ⟨k + 1, by omega, by go_num, HST.out.1, hb.setCell (p := ⟨fb, k, none⟩) (Nat.le_refl _) _⟩
      case measure => simp [intOf]; omega
    · obtain rfl : k = 128 := by omega
      have e1 := HO.out.cellAt full (by omega)
      rw [farV_get hf7] at e1
      have f1 := HO.out.frozenAt full
      have l1 := block_lt_of_cell e1
      have hst := HO.out.stored full (.int .i16 0)
      rw [farV_set] at hst
      have HST := Lib.hid hst
      have y0 := Below.cellOf hb x0 hfb2
      have y1 := Below.cellOf hb x1 hfb2
      have ly := block_lt_of_cell y0
      clear hst
      go_wp2
      have hfe : farV (fun j => if j = full then (0 : Int) else if j < 128 then -1 else 0) = farV (fun j => if j = full then 0 else -1) := farV_congr fun j hj => by
        by_cases e : j = full
        · rw [if_pos e, if_pos e]
        · rw [if_neg e, if_neg e, if_pos hj]
      have hst1 := HST.out.1
      rw [hfe] at hst1
      have HST1 := Lib.hid hst1
      have HLIT := Lib.hid (fun W (h : fb ≤ W.heap.size) => World.ownsRow_lit (base := fb) (size := 1) (e := 83) W #[.int .u64 (full : Int)] 1 h (by unfold maxLen; omega) (by simp))
      have hb6 := hb.setCell (p := ⟨fb, full, none⟩) (Nat.le_refl _) (.int .i16 0)
      have hlw : fb ≤ wr.heap.size := by omega
      clear hfe hst1
      go_region
      all_goals
        go_wp2
        go_loopw [7, 8, 9] (fun q r i wr => ∃ k : Nat, Hid (k ≤ (outerT xss full k).length) ∧ i = .int .i64 k ∧ r = .int .i64 (leastTo (outerT xss full k) k : Nat) ∧ Hid (∃ F, SvAt W0 wr fb q F (outerT xss full k))) (fun _ _ i _ => 1024 - (intOf i).toNat)
        case atStart =>
          refine ⟨0, Nat.zero_le _, rfl, by rw [HCF.out], fun j => if j = full then 0 else -1, ?_, fun j => ?_, fun j => ?_, fun j => ?_, ?_, ?_⟩
          · first | exact HST1.out.alloc _ | exact own_drew (HST1.out.alloc _)
          · rw [HS0.out, List.mem_singleton]
            by_cases e : j = full
            · simp [e]
            · simp [e]
          · show -1 ≤ if j = full then (0 : Int) else -1
            split <;> omega
          · show (if j = full then (0 : Int) else -1) < _
            have := outerT_pos xss full 0
            split <;> omega
          · rw [HS0.out]
            have h := HLIT.out (wr.setCell ⟨fb, full, none⟩ (.int .i16 0)) (by simp; omega)
            rw [show (wr.setCell ⟨fb, full, none⟩ (.int .i16 0)).heap.size = wr.heap.size by simp] at h
            exact h
          · first | exact hb6.alloc (by simp; omega) _ | exact (hb6.alloc (by simp; omega) _).drew
        case round =>
          obtain ⟨i, hi, rfl, rfl, HSV⟩ := hrel
          obtain ⟨wq, rfl⟩ : ∃ wq : World, wq = wr := ⟨_, rfl⟩
          obtain ⟨F, hsv⟩ := HSV.out
          have hbw : Below w.heap.size w wq := hbx.trans (hsv.below.mono (by omega))
          have hgt := HGT.out i
          have hlen : (outerT xss full i).length ≤ 128 := Nat.le_trans hgt.len (show 2 ^ n ≤ 2 ^ 7 from Nat.pow_le_pow_right (by decide) hn7)
          obtain ⟨aq, mq, cq, rfl, HMq⟩ := own_shape hsv.que
          obtain rfl : mq = (outerT xss full i).length := by rw [HMq.out, Tour.sets_len]
          have hlq : fb < wq.heap.size := (own_block hsv.far rfl).2
          have z0 := Below.cellOf hsv.below x0 hfb2
          have z1 := Below.cellOf hsv.below x1 hfb2
          have HSS := Lib.hid hsv
          have hleast := leastTo_le (outerT xss full i) i
          have HST2 : Hid ((outerT xss full i).length ≤ i → leastTo (outerT xss full i) i = rankT (tourOf xss full)) := fun h => by
            have hil : (outerT xss full i).length = i := by have := hi.out; omega
            unfold rankT
            rw [← tourOf_stop (rows := xss) (f := full) (i := i) h (by omega), hil]
          have HER2 := Lib.hid (HER.out i)
          have HRD : Hid (i < (outerT xss full i).length → outerT xss full (i + 1) = innerT xss i (outerT xss full i) xss.length) := fun h => outerT_round h
          have HLN : Hid (i < (outerT xss full i).length → leastTo (outerT xss full (i + 1)) (i + 1) = leastTo (outerT xss full i) (i + 1)) := fun h => least_next h
          have HGI := Lib.hid (fun (h : i < (outerT xss full i).length) x (hx : x ≤ xss.length) => hgt.inner HG.out.rows hl3 h x hx)
          have HPI := Lib.hid (HPT.out i)
          have HGT2 := Lib.hid hgt
          clear HMq hsv hgt
          generalize outerT xss full i = T at HSS hleast HST2 HER2 HRD HLN HGI HPI HGT2 hlen hi ⊢
          by_cases hlt : i < T.length
          · have hq := HSS.out.que
            rw [Tour.sets_len] at hq
            obtain ⟨gq, cq2, hqe, _⟩ := own_some hq (by omega)
            rw [Value.slice.injEq] at hqe
            obtain ⟨hqe1, _, hqe3⟩ := hqe
            subst hqe1
            subst hqe3
            have e1 := hq.cellAt i (by omega)
            rw [flVals_get (by rw [Tour.sets_len]; exact hlt), Tour.sets_at hlt] at e1
            have l1 := block_lt_of_cell e1
            have i1 := idx_of Try.underlying77 size1_flock (ao := some ⟨gq, 0, none⟩) (b := gq) (o := 0) (n := T.length) (c := cq) (fun _ => rfl) hlt .i64
            rw [Nat.zero_add] at i1
            have hf7' : (T.at i).1 < 128 := Nat.lt_of_lt_of_le (HGT2.out.lt _ (Tour.at_mem hlt)) (show 2 ^ n ≤ 2 ^ 7 from Nat.pow_le_pow_right (by decide) hn7)
            have hmem : (T.at i).1 ∈ T.sets := Tour.mem_sets hlt
            have HMEM := Lib.hid hmem
            obtain ⟨f, hf⟩ : ∃ f, f = (T.at i).1 := ⟨_, rfl⟩
            rw [← hf] at e1 hf7' HMEM
            have HFE := Lib.hid hf
            have HLS := Lib.hid (leastTo_succ T i)
            rw [← hf] at HLS
            have e2 := HSS.out.far.cellAt f (by omega)
            rw [farV_get hf7'] at e2
            have HCP := Lib.hid card_pop
            have hcf := card_le f
            clear hf hmem hq
            go_wp2
            go_loop [11, 12] (fun m r => ∃ (a q : Nat), m = .int .i64 a ∧ r = .int .u64 q ∧ q < 128 ∧ Hid (a + card q = card f)) (fun _ r => (intOf r).toNat)
            case atStart => exact ⟨0, f, rfl, rfl, hf7', by simp [Hid]⟩
            case round =>
              obtain ⟨a, q, rfl, rfl, hq7, hcq⟩ := hrel
              have ha10 : a ≤ 10 := by have := hcq.out; omega
              by_cases hq0 : 0 < q
              · have hpop : bits .and .u64 (q : Int) ((q : Int) - 1) = ((q &&& (q - 1) : Nat) : Int) := by have h := pop_u64 hq7 hq0; rwa [wrap_u64_in _ (by omega) (by omega)] at h
                have hlt2 := pop_lt hq0
                have hnx : Hid (a + 1 + card (q &&& (q - 1)) = card f) := by have h1 := HCP.out q hq7 hq0; have h2 := hcq.out; unfold Hid; omega
                generalize q &&& (q - 1) = q2 at hpop hlt2 hnx
                go_wp2
                go_round
                case rel => exact ⟨a + 1, q2, by go_num, by first | rfl | exact congrArg (Value.int .u64) hpop, by omega, hnx.out⟩
                case measure => simp [intOf, hpop]; omega
              · obtain rfl : q = 0 := by omega
                have hac : a = card f := by have h := hcq.out; rw [card_zero] at h; omega
                clear hcq
                subst hac
                have hFlo := HSS.out.lo f
                have hFhi := HSS.out.hi f
                have hve : (if card f < leastTo T i then ((card f : Nat) : Int) else ((leastTo T i : Nat) : Int)) = ((leastTo T (i + 1) : Nat) : Int) := by rw [HLS.out]; show _ = ((min _ _ : Nat) : Int); split <;> omega
                obtain ⟨r, hr⟩ : ∃ r, r = leastTo T (i + 1) := ⟨_, rfl⟩
                rw [← hr] at hve
                have HR := Lib.hid hr
                have hr10 : r ≤ 10 := by rw [hr]; exact leastTo_le _ _
                clear hr
                by_cases hr1 : r = 1
                · have HRK : Hid (rankT (tourOf xss full) = 1) := HER2.out hlt (by omega) (by rw [← HR.out]; exact hr1)
                  rw [hr1] at hve
                  clear hr1 HR
                  go_wp2
                  go_quiet (fail)
                  go_wp2
                  go_ret2
                  exact ⟨F f, by rw [HRK.out]; rfl, below_drewN' hbw _⟩
                · have hb1 : ((r : Int) == 1) = false := by simp; omega
                  have HAR := Lib.hid hr1
                  clear hr1 e2 hFlo hFhi e1 i1 l1
                  go_wp2
                  clear hve hb1
                  go_loopw [7, 66] (fun q x wr => ∃ k : Nat, k ≤ xss.length ∧ x = .int .i64 k ∧ Hid (∃ F, SvAt W0 wr fb q F (innerT xss i T k))) (fun _ x _ => xss.length - (intOf x).toNat)
                  case atStart => exact ⟨0, Nat.zero_le _, rfl, F, by simpa [innerT] using HSS.out⟩
                  case round =>
                    obtain ⟨x, hx, rfl, HSX⟩ := hrel
                    obtain ⟨F2, hsx⟩ := HSX.out
                    have hgx := HGI.out hlt x hx
                    have hlx : (innerT xss i T x).length ≤ 128 := Nat.le_trans hgx.len (show 2 ^ n ≤ 2 ^ 7 from Nat.pow_le_pow_right (by decide) hn7)
                    have hux : T.length ≤ (innerT xss i T x).length := innerT_len xss i T x
                    have huat : (innerT xss i T x).at i = T.at i := innerT_at xss i T x hlt
                    have HNX := Lib.hid (innerT_succ xss i T x)
                    have HRX : Hid (x = xss.length → outerT xss full (i + 1) = innerT xss i T x) := fun h => by rw [HRD.out hlt, h]
                    obtain ⟨aq2, mq2, cq3, rfl, HMq2⟩ := own_shape hsx.que
                    have HSX2 := Lib.hid hsx
                    have hbw2 : Below w.heap.size w wr := hbx.trans (hsx.below.mono (by omega))
                    have hlr : fb < wr.heap.size := (own_block hsx.far rfl).2
                    have HUA := Lib.hid huat
                    clear hsx huat hgx
                    generalize innerT xss i T x = U at HSX2 hlx hux HUA HNX HRX
                    by_cases hxl : x < xss.length
                    · have i2 := idx_of Try.underlying22 size1_ints (c := c) A1 hxl .i64
                      obtain ⟨r1, dr, hr1⟩ := HROW.out x hxl
                      obtain ⟨ao3, b3, o3, c3, H3⟩ := hr1.open
                      have hv3 := H3.val
                      subst hv3
                      replace dr := below_cell hbw2 dr
                      have ldr := block_lt_of_cell dr
                      have A3 := H3.adr
                      obtain ⟨hwl, hwv⟩ := HWD.out x hxl
                      have HWV := Lib.hid hwv
                      have HML := Lib.hid (movedTo_lt hwv f)
                      have HME := Lib.hid (moved_eq (xss.getD x []) f)
                      have HMS := Lib.hid (movedTo_succ (xss.getD x []) f)
                      have HAT := Lib.hid (fun k (hk : k < (xss.getD x []).length) => H3.at hk)
                      have HST9 : Hid (stepT xss i U x = if moved (xss.getD x []) f ∈ U.sets then U else U ++ [(moved (xss.getD x []) f, (U.at i).2 ++ [(x : Int)])]) := by unfold Hid stepT; rw [HUA.out, ← HFE.out]
                      obtain ⟨row, hrow⟩ : ∃ row, row = xss.getD x [] := ⟨_, rfl⟩
                      rw [← hrow] at dr A3 HWV HML HME HMS HAT HST9 hwl
                      have HRWL := Lib.hid hwl
                      have hrl7 : row.length ≤ 7 := by omega
                      clear hrow hwl hwv hr1 H3
                      go_wp2
                      go_loop [15, 72] (fun t y => ∃ k : Nat, k ≤ row.length ∧ y = .int .i64 k ∧ t = .int .u64 (movedTo row f k : Nat)) (fun _ y => row.length - (intOf y).toNat)
                      case atStart => exact ⟨0, Nat.zero_le _, rfl, rfl⟩
                      case round =>
                        obtain ⟨k, hk, rfl, rfl⟩ := hrel
                        by_cases hkl : k < row.length
                        · have i3 := idx_of Try.underlying32 size1_int (c := c3) A3 hkl .i64
                          obtain ⟨y, hy, dy⟩ := HAT.out k hkl
                          replace dy := below_cell hbw2 dy
                          have ldy := block_lt_of_cell dy
                          have hyy := HWV.out y (by rw [← hy]; exact mem_getD hkl)
                          have HB := Lib.hid (HMS.out k)
                          have hmlt := HML.out k hk
                          have h7p : 2 ^ n ≤ 2 ^ 7 := Nat.pow_le_pow_right (by decide) hn7
                          have ht := bit_u64 (f := f) (k := k) (by omega)
                          obtain ⟨y0, y1⟩ := hyy
                          obtain ⟨q, hq⟩ : ∃ q, q = movedTo row f k := ⟨_, rfl⟩
                          rw [← hq] at HB hmlt ⊢
                          have HY := Lib.hid hy
                          have hq128 : q < 128 := by omega
                          clear hq hy hmlt h7p
                          cases hb2 : f.testBit k
                          · rw [hb2] at ht HB
                            clear hb2
                            go_wp2
                            go_round
                            case rel => exact ⟨k + 1, by omega, by go_num, by rw [HB.out]; rfl⟩
                            case measure => simp [intOf]; omega
                          · rw [hb2] at ht HB
                            clear hb2
                            go_wp2
                            go_round
                            case rel => exact ⟨k + 1, by omega, by go_num, by rw [HB.out, HY.out, if_pos rfl, or_pow_u64 (by omega) (by omega)]⟩
                            case measure => simp [intOf]; omega
                        · obtain rfl : k = row.length := by omega
                          have h7p : 2 ^ n ≤ 2 ^ 7 := Nat.pow_le_pow_right (by decide) hn7
                          have htl : movedTo row f row.length < 128 := by have := HML.out row.length (Nat.le_refl _); omega
                          rw [HME.out] at HST9
                          generalize movedTo row f row.length = t at htl HST9 ⊢
                          have e3 := HSX2.out.far.cellAt t (by omega)
                          rw [farV_get htl] at e3
                          have f3 := HSX2.out.far.frozenAt t
                          have le3 := block_lt_of_cell e3
                          have hsn := HSX2.out.seen t
                          by_cases hmem : t ∈ U.sets
                          · have hF0 : ¬ F2 t < 0 := fun h => (hsn.1 h) hmem
                            have HU2 : Hid (innerT xss i T (x + 1) = U) := by unfold Hid; rw [HNX.out, HST9.out, if_pos hmem]
                            clear hsn hmem h7p
                            go_wp2
                            go_roundw
                            case rel => exact ⟨x + 1, by omega, by go_num, by rw [HU2.out]; exact ⟨F2, HSX2.out⟩⟩
                            case measure => simp [intOf]; omega
                          · have hF0 : F2 t < 0 := hsn.2 hmem
                            have HU2 : Hid (innerT xss i T (x + 1) = U ++ [(t, (U.at i).2 ++ [(x : Int)])]) := by unfold Hid; rw [HNX.out, HST9.out, if_neg hmem]
                            have hfu : f ∈ U.sets := by
                              have h := Tour.mem_sets (T := U) (i := i) (by omega)
                              rw [HUA.out, ← HFE.out] at h
                              exact h
                            have HFU := Lib.hid hfu
                            have HMM := Lib.hid hmem
                            have e4 := HSX2.out.far.cellAt f (by omega)
                            rw [farV_get hf7'] at e4
                            have hF2lo := HSX2.out.lo f
                            have hF2hi := HSX2.out.hi f
                            have hw16 := wrap_i16_in (F2 f + 1) (by omega) (by omega)
                            have hqo := own_grown HSX2.out.que HSX2.out.far (HSX2.out.far.stored t (.int .i16 (F2 f + 1))).2 rfl (by decide)
                            have HQO := Lib.hid hqo
                            have hslen : U.sets.length = U.length := Tour.sets_len U
                            have HSLEN := Lib.hid hslen
                            clear hsn hmem h7p hfu hqo hslen
                            go_wp2_with (at_builtin; refine wpList_push elem_flock rfl (.tmp 97) (.tmp 99) rfl fb rfl HQO.out (.int .u64 (t : Int)) (by show Value.slice _ 1 1 = _; simp) rfl (by rw [HSLEN.out]; unfold maxLen; omega) (by rw [HSLEN.out]; omega) (by simp; omega) ?_; intro v6 w6 ho6 hg6 hs6)
                            have hsv6 := HSX2.out.give (wd := (U.at i).2 ++ [(x : Int)]) (by omega) HMM.out htl HFU.out hg6 ho6
                            have HS6 := Lib.hid hsv6
                            clear hsv6 ho6 hg6 hs6
                            go_wp2
                            go_roundw
                            case rel => exact ⟨x + 1, by omega, by go_num, by rw [HU2.out]; exact ⟨_, HS6.out⟩⟩
                            case measure => simp [intOf]; omega
                    · obtain rfl : x = xss.length := by omega
                      have hout := HRX.out rfl
                      have HOU := Lib.hid hout
                      have HL2 : Hid (r = leastTo U (i + 1)) := by
                        unfold Hid
                        rw [HR.out, ← HLN.out hlt, hout]
                      clear hout
                      go_wp2
                      go_roundw
                      case rel => exact ⟨i + 1, by rw [HOU.out]; unfold Hid; omega, by go_num, by rw [HOU.out, ← HL2.out], by rw [HOU.out]; exact ⟨F2, HSX2.out⟩⟩
                      case measure => simp [intOf]; omega
          · have HRK : Hid (leastTo T i = rankT (tourOf xss full)) := HST2.out (by omega)
            clear hleast
            go_wp2
            go_ret2
            exact ⟨-1, by rw [← HRK.out]; rfl, hbw⟩

end Go.Proofs.Ytlgnbbfhejjodaa
