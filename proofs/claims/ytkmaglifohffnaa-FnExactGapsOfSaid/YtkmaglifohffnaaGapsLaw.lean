/- GapsOf of both sides; eqGapS, markGapS, heldGapS of the law. -/
import Derived.Test.YtkmaglifohffnaaGaps
import Derived.Deep.RegionHeld3
namespace Go.Proofs.Ytkmaglifohffnaa
set_option linter.unusedVariables false
set_option linter.unusedSimpArgs false
open Go.ChangeShapes Go.WideShapes Go.ChangeAt Go.RowKit

def gapZs (st : Int) (xss : List (List Int)) : List (Int × Int) := if validP st xss = true then gapsOf xss else []
def gapCd (st : Int) (xss : List (List Int)) : Int := if validP st xss = true then 0 else 1
theorem gapZs_len (st : Int) (xss : List (List Int)) : (gapZs st xss).length ≤ 40 := by
  unfold gapZs
  split
  · rename_i hv
    obtain ⟨n, hg⟩ := goodP_of hv
    exact gapsOf_len hg
  · simp

set_option maxRecDepth 100000 in
theorem specGapsOf_any (st : Int) (v : Value) (xss : List (List Int)) (w : World) (h1 : Rows2 w v xss) :
    Calls Try.prog 28 #[.agg #[.int .i64 st, v]] w (NewGaps2 (gapZs st xss) (gapCd st xss) w) := by
  obtain ⟨ao, m, c, rfl, HM⟩ := h1.shape
  obtain ⟨W1, hW1⟩ : ∃ W1, W1 = w.alloc (.cells #[.int .i64 st, .slice ao m c] 48) := ⟨_, rfl⟩
  have bx : Below w.heap.size w W1 := by rw [hW1]; exact below_alloc (Below.refl _ _) _
  have p0 : W1.cell? ⟨w.heap.size, 0, none⟩ = some (.int .i64 st) := by rw [hW1]; go_simp
  have p1 : W1.cell? ⟨w.heap.size, 1, none⟩ = some (.slice ao m c) := by rw [hW1]; go_simp
  have HOK := Lib.hid (l04Ok_any w.heap.size 0 st _ xss W1 p0 p1 (h1.kept bx))
  cases hv : validP st xss
  · rw [show gapZs st xss = [] by simp [gapZs, hv], show gapCd st xss = 1 by simp [gapCd, hv]]
    rw [hv] at HOK
    subst hW1
    clear hv h1
    go_enter Try.func28, Try.ntmps28
    go_wp2_with fail
    refine HOK.out.mono ?_
    rintro e w2 ⟨rfl, hq⟩
    have hb := hq.below (w.alloc (.cells #[.int .i64 st, .slice ao m c] 48)).heap.size
    have HE := Lib.hid (own_empty2 w2 w.heap.size (by have := hb.size; simp at this; omega) 105)
    go_wp2
    go_ret2
    exact ⟨_, rfl, HE.out, below_trans bx (below_trans hb (below_alloc (Below.refl _ _) _))⟩
  · obtain ⟨n, hg⟩ := goodP_of hv
    rw [show gapZs st xss = gapsOf xss by simp [gapZs, hv], show gapCd st xss = 0 by simp [gapCd, hv]]
    rw [hv] at HOK
    have HGA := Lib.hid (fun W (hW : Below W1.heap.size W1 W) => l04Gaps_any w.heap.size st _ xss n W (below_cell hW p0) (below_cell hW p1) ((h1.kept bx).kept hW) hg)
    have E1 : Hid (W1.heap.size = w.heap.size + 1) := by unfold Hid; rw [hW1]; simp
    generalize gapsOf xss = gs at HGA ⊢
    subst hW1
    clear hv h1 hg
    go_enter Try.func28, Try.ntmps28
    go_wp2_with fail
    refine HOK.out.mono ?_
    rintro e w2 ⟨rfl, hq⟩
    have hb := hq.below (w.alloc (.cells #[.int .i64 st, .slice ao m c] 48)).heap.size
    go_wp2_with fail
    refine (HGA.out _ hb).mono ?_
    rintro e w3 ⟨vg, rfl, ho, hb3⟩
    have HO : Hid (w3.ownsRow w.heap.size 105 2 vg gs.length (gapVals gs)) := own_lo ho (by have := hb.size; rw [E1.out] at this; omega)
    have hbb := below_trans bx (below_trans hb hb3)
    clear ho hb hb3 hq
    go_wp2
    go_ret2
    exact ⟨_, rfl, HO.out, hbb⟩

set_option maxRecDepth 100000 in
theorem implGapsOf_any (st : Int) (v : Value) (xss : List (List Int)) (w : World) (h1 : Rows2 w v xss) :
    Calls Try.prog 30 #[.agg #[.int .i64 st, v]] w (NewGaps2 (gapZs st xss) (gapCd st xss) w) := by
  obtain ⟨ao, m, c, rfl, HM⟩ := h1.shape
  obtain ⟨W1, hW1⟩ : ∃ W1, W1 = w.alloc (.cells #[.int .i64 st, .slice ao m c] 48) := ⟨_, rfl⟩
  have bx : Below w.heap.size w W1 := by rw [hW1]; exact below_alloc (Below.refl _ _) _
  have p0 : W1.cell? ⟨w.heap.size, 0, none⟩ = some (.int .i64 st) := by rw [hW1]; go_simp
  have p1 : W1.cell? ⟨w.heap.size, 1, none⟩ = some (.slice ao m c) := by rw [hW1]; go_simp
  have HOK := Lib.hid (validPart_any st _ xss W1 (h1.kept bx))
  cases hv : validP st xss
  · rw [show gapZs st xss = [] by simp [gapZs, hv], show gapCd st xss = 1 by simp [gapCd, hv]]
    rw [hv] at HOK
    subst hW1
    clear hv h1
    go_enter Try.func30, Try.ntmps30
    go_wp2_with fail
    refine HOK.out.mono ?_
    rintro e w2 ⟨rfl, hb⟩
    go_wp2
    go_ret2
    exact ⟨_, rfl, World.ownsRow_nil _ _ _ _, below_trans bx hb⟩
  · obtain ⟨n, hg⟩ := goodP_of hv
    rw [show gapZs st xss = gapsOf xss by simp [gapZs, hv], show gapCd st xss = 0 by simp [gapCd, hv]]
    rw [hv] at HOK
    have HGA := Lib.hid (fun W (hW : Below w.heap.size w W) => partGaps_any st _ xss n W (h1.kept hW) hg)
    generalize gapsOf xss = gs at HGA ⊢
    subst hW1
    clear hv h1 hg
    go_enter Try.func30, Try.ntmps30
    go_wp2_with fail
    refine HOK.out.mono ?_
    rintro e w2 ⟨rfl, hb⟩
    replace p0 := below_cell hb p0
    replace p1 := below_cell hb p1
    have bw2 := below_trans bx hb
    go_wp2_with fail
    refine (HGA.out _ bw2).mono ?_
    rintro e w3 ⟨vg, rfl, ho, hb3⟩
    have HO : Hid (w3.ownsRow w.heap.size 105 2 vg gs.length (gapVals gs)) := own_lo ho bw2.size
    have hbb := below_trans bw2 hb3
    clear ho hb hb3
    go_wp2
    go_ret2
    exact ⟨_, rfl, HO.out, hbb⟩

/-- the numbers of a list of gaps -/
structure GapsAt (w : World) (v : Value) (n : Nat) (zs : List Int) (ao : Option Addr) (b c : Nat) : Prop where
  val : v = .slice ao n c
  adr : 0 < n → ao = some ⟨b, 0, none⟩
  cell : ∀ j, j < 2 * n → w.cell? ⟨b, j, none⟩ = some (.int .i64 (zs.getD j 0))
theorem gaps_open {w : World} {lo n : Nat} {v : Value} {zs : List Int} (h : w.ownsRow lo 105 2 v n (zs.map (Value.int .i64))) : ∃ ao b c, GapsAt w v n zs ao b c := by
  have hl := h.1
  rw [List.length_map] at hl
  rcases h.2 with ⟨rfl, rfl⟩ | ⟨g, cap, cur, rfl, _⟩
  · exact ⟨none, 0, 0, rfl, by omega, fun j hj => by omega⟩
  · refine ⟨_, g, cap, rfl, fun _ => rfl, fun j hj => ?_⟩
    rw [h.cellAt j (by omega)]
    simp [List.getD_eq_getElem?_getD, show j < zs.length by omega]
/-- the index operation at gaps -/
theorem idx2_of {ao : Option Addr} {b n c : Nat} (ha : 0 < n → ao = some ⟨b, 0, none⟩) {k : Nat} (hk : k < n) (kd : IntKind) :
    ∀ w, (Instr.indexAt 45 (.slice ao n c) (.int kd (k : Int))).run Try.prog w = .ok (.pointer (some ⟨b, k * 2, none⟩)) w := by
  intro w
  obtain rfl := ha (by omega)
  have he : Try.prog.elem 45 = 105 := by simp [Program.elem, Try.underlying45]
  rw [run_indexAt_slice (P := Try.prog) w _ _ n c kd k (by rw [he]; exact Try.underlying45), if_pos (by omega), he, size2_gap]
  simp [Result.andThen, Addr.add_lit]

theorem eqGap_yes (p q : Int) (w : World) : Calls Try.prog 83 #[.agg #[.int .i64 p, .int .i64 q], .agg #[.int .i64 p, .int .i64 q]] w (RetB (.bool true) w) := by
  have hp : ∀ x : Int, (x != x) = false := by simp
  go_enter Try.func83, Try.ntmps83
  go_wp2
  go_ret
  exact ⟨rfl, below_alloc (below_alloc (Below.refl _ _) _) _⟩

set_option maxRecDepth 100000 in
set_option maxHeartbeats 600000 in
theorem eqGaps_yes {lo1 lo2 : Nat} (v1 v2 : Value) (gs : List (Int × Int)) (w : World) (h1 : w.ownsRow lo1 105 2 v1 gs.length (gapVals gs)) (h2 : w.ownsRow lo2 105 2 v2 gs.length (gapVals gs)) :
    Calls Try.prog 31 #[v1, v2] w (RetB (.bool true) w) := by
  obtain ⟨ao1, b1, c1, H1⟩ := gaps_open h1
  obtain ⟨ao2, b2, c2, H2⟩ := gaps_open h2
  have hv1 := H1.val
  have hv2 := H2.val
  subst hv1 hv2
  have hl : gs.length ≤ 9223372036854775807 := by
    rcases h1.2 with ⟨_, h⟩ | ⟨_, _, _, _, _, _, h, h', _⟩
    · omega
    · unfold maxLen at h'; omega
  obtain ⟨n, hn⟩ : ∃ n, n = gs.length := ⟨_, rfl⟩
  rw [← hn] at H1 H2 hl ⊢
  clear h1 h2 hn
  have hne : ((n : Int) != (n : Int)) = false := by simp
  go_enter Try.func31, Try.ntmps31
  go_wp2
  go_loopw [5] (fun i wr => ∃ k : Nat, k ≤ n ∧ i = .int .i64 k ∧ Below w.heap.size w wr) (fun i _ => n - (intOf i).toNat)
  case atStart => exact ⟨0, Nat.zero_le _, rfl, Below.refl _ _⟩
  case round =>
    obtain ⟨k, hk, rfl, hb⟩ := hrel
    by_cases hlt : k < n
    · have i1 := idx2_of (c := c1) H1.adr hlt .i64
      have i2 := idx2_of (c := c2) H2.adr hlt .i64
      have d1 := below_cell hb (H1.cell (k * 2) (by omega))
      have d2 := below_cell hb (H1.cell (k * 2 + 1) (by omega))
      have d3 := below_cell hb (H2.cell (k * 2) (by omega))
      have d4 := below_cell hb (H2.cell (k * 2 + 1) (by omega))
      have z1 := block_lt_of_cell d1
      have z3 := block_lt_of_cell d3
      generalize (gapInts gs).getD (k * 2) 0 = p at d1 d3
      generalize (gapInts gs).getD (k * 2 + 1) 0 = q at d2 d4
      have HEQ := Lib.hid (fun W => eqGap_yes p q W)
      go_wp2
      go_region_held3 (fun w' => Below wr.heap.size wr w' ∧ ∀ b o, b < wr.heap.size → w'.cell? ⟨b, o, none⟩ = wr.cell? ⟨b, o, none⟩) (first | exact held_start | assumption | exact held_nx (by assumption) (by assumption)) (first | (go_simp; go_at_call 83; refine (HEQ.out _).mono ?_; rintro e w4 ⟨rfl, hb4⟩))
      rename Below wr.heap.size wr w4 ∧ _ => hS
      obtain ⟨hw4, hcs⟩ := hS
      clear hcs
      have hbb := below_trans hb hw4
      go_wp2
      go_roundw
      case rel => exact ⟨k + 1, by omega, by go_num, hbb⟩
      case measure => simp [intOf]; omega
    · obtain rfl : k = n := by omega
      go_wp2
      go_ret
      exact ⟨rfl, hb⟩

/-- the numbers are marked from k0 on -/
def MarkedG (v : Value) (lo hi n : Nat) (k0 : Int) (w : World) (e : Ending) (w' : World) : Prop :=
  e = .returned (.int .i64 (k0 + 2 * n)) ∧ w'.ownsRow lo 105 2 v n ((run k0 (2 * n)).map (Value.int .i64)) ∧ Chg lo hi w w'

set_option maxRecDepth 100000 in
set_option maxHeartbeats 600000 in
theorem markGaps_own (v : Value) (lo n : Nat) (xs : List Int) (k0 : Int) (w : World) (hown : w.ownsRow lo 105 2 v n (xs.map (Value.int .i64))) (h0 : 0 ≤ k0) (hk0 : k0 + 2 * n ≤ 4611686018427387904) :
    Calls Try.prog 34 #[v, .int .i64 k0] w fun e w' => e = .returned (.int .i64 (k0 + 2 * n)) ∧ w'.ownsRow lo 105 2 v n ((run k0 (2 * n)).map (Value.int .i64)) ∧ w.grownBy w' v.ownBlock := by
  have hxl : xs.length = 2 * n := by have := hown.1; rw [List.length_map] at this; omega
  by_cases hn0 : n = 0
  · subst hn0
    have hv : ∃ ao c, v = .slice ao 0 c := by
      rcases hown.2 with ⟨rfl, _⟩ | ⟨g, cap, cur, rfl, _⟩
      · exact ⟨_, _, rfl⟩
      · exact ⟨_, _, rfl⟩
    obtain ⟨ao, c, rfl⟩ := hv
    have hx : xs = [] := List.eq_nil_of_length_eq_zero hxl
    subst hx
    have HOWN := Lib.hid hown
    clear hown hxl
    go_enter Try.func34, Try.ntmps34
    go_wp2
    refine wp_loop_rounds 1 ?_
    rw [rounds_succ]
    go_wp2
    go_ret
    exact ⟨by simp, by simpa [run] using HOWN.out, World.grownBy.refl _ _⟩
  · obtain ⟨g, cap, rfl, hcap⟩ := own_some hown (by omega)
    have HOWN := Lib.hid hown
    have HXL := Lib.hid hxl
    have hm : n ≤ 4611686018427387904 := by omega
    clear hown hxl
    go_enter Try.func34, Try.ntmps34
    go_wp2
    go_loopw [1, 5] (fun q i wr => ∃ k : Nat, k ≤ n ∧ i = .int .i64 k ∧ q = .int .i64 (k0 + 2 * k) ∧ Hid (wr.ownsRow lo 105 2 (.slice (some ⟨g, 0, none⟩) n cap) n ((run k0 (2 * k) ++ xs.drop (2 * k)).map (Value.int .i64))) ∧ w.grownBy wr (some g)) (fun _ i _ => n - (intOf i).toNat)
    case atStart => exact ⟨0, Nat.zero_le _, rfl, by go_num, by simpa [run, Hid] using HOWN.out, World.grownBy.refl _ _⟩
    case round =>
      obtain ⟨k, hk, rfl, rfl, HO, hg⟩ := hrel
      by_cases hlt : k < n
      · have i1 := idx2_of (b := g) (ao := some ⟨g, 0, none⟩) (c := cap) (fun _ => rfl) hlt .i64
        have hc := HO.out.cellAt (2 * k) (by omega)
        have hc1 := HO.out.cellAt (2 * k + 1) (by omega)
        have hf := HO.out.frozenAt (2 * k)
        have hf1 := HO.out.frozenAt (2 * k + 1)
        have hst := HO.out.stored (2 * k) (.int .i64 (k0 + 2 * k))
        have hst2 := hst.1.stored (2 * k + 1) (.int .i64 (k0 + 2 * k + 1))
        have e1 : (((run k0 (2 * k) ++ xs.drop (2 * k)).map (Value.int .i64)).set (2 * k) (.int .i64 (k0 + 2 * k))).set (2 * k + 1) (.int .i64 (k0 + 2 * k + 1)) = (run k0 (2 * (k + 1)) ++ xs.drop (2 * (k + 1))).map (Value.int .i64) := by
          rw [← List.map_set, ← List.map_set]
          have r1 := run_step k0 (2 * k) xs (by rw [HXL.out]; omega)
          have r2 := run_step k0 (2 * k + 1) xs (by rw [HXL.out]; omega)
          rw [show ((2 * k : Nat) : Int) = 2 * (k : Int) by omega] at r1
          rw [show ((2 * k + 1 : Nat) : Int) = 2 * (k : Int) + 1 by omega, ← Int.add_assoc] at r2
          rw [r1, r2, show 2 * (k + 1) = 2 * k + 1 + 1 by omega]
        rw [e1] at hst2
        have hs1 : (wr.cell? ⟨g, 2 * k, none⟩).isSome = true := by rw [hc]; simp [run_length, HXL.out]; omega
        have hs2 : (wr.cell? ⟨g, 2 * k + 1, none⟩).isSome = true := by rw [hc1]; simp [run_length, HXL.out]; omega
        obtain ⟨u, hu⟩ := Option.isSome_iff_exists.1 hs1
        obtain ⟨u1, hu1⟩ := Option.isSome_iff_exists.1 hs2
        rw [show 2 * k = k * 2 by omega] at hu hu1 hf hf1
        have hg' := grown_trans (grown_trans hg hst.2) hst2.2
        rw [show 2 * k = k * 2 by omega] at hst2 hg'
        have HST := Lib.hid hst2.1
        have HG := Lib.hid hg'
        clear hst hst2 e1 hc hc1 hs1 hs2 hg hg'
        go_wp2
        go_roundw
        case rel => exact ⟨k + 1, by omega, by go_num, by go_num, HST.out, HG.out⟩
        case measure => simp [intOf]; omega
      · obtain rfl : k = n := by omega
        go_wp2
        go_ret
        refine ⟨rfl, ?_, hg⟩
        have := HO.out
        rw [List.drop_of_length_le (by rw [HXL.out]; omega), List.append_nil] at this
        exact this

theorem markGaps_chg (v : Value) (lo hi : Nat) (gs : List (Int × Int)) (k0 : Int) (w : World) (hown : w.ownsRow lo 105 2 v gs.length (gapVals gs)) (hin : IntsIn lo hi v) (h0 : 0 ≤ k0) (hk0 : k0 + 2 * gs.length ≤ 4611686018427387904) :
    Calls Try.prog 34 #[v, .int .i64 k0] w (MarkedG v lo hi gs.length k0 w) :=
  (markGaps_own v lo gs.length (gapInts gs) k0 w hown h0 hk0).mono fun _ _ ⟨he, ho, hg⟩ => ⟨he, ho, Chg.of_grown hg hin⟩

set_option maxRecDepth 100000 in
set_option maxHeartbeats 600000 in
theorem heldGaps_ret {lo : Nat} (v : Value) (n : Nat) (k0 : Int) (w : World) (h1 : w.ownsRow lo 105 2 v n ((run k0 (2 * n)).map (Value.int .i64))) (h0 : 0 ≤ k0) (hk0 : k0 + 2 * n ≤ 4611686018427387904) :
    Calls Try.prog 35 #[v, .int .i64 k0] w (RetB (.int .i64 (k0 + 2 * n)) w) := by
  obtain ⟨ao1, b1, c1, H1⟩ := gaps_open h1
  have hv1 := H1.val
  subst hv1
  have hne : ∀ x : Int, (x != x) = false := by simp
  clear h1
  go_enter Try.func35, Try.ntmps35
  go_wp2
  go_loop [1, 5] (fun q i => ∃ k : Nat, k ≤ n ∧ i = .int .i64 k ∧ q = .int .i64 (k0 + 2 * k)) (fun _ i => n - (intOf i).toNat)
  case atStart => exact ⟨0, Nat.zero_le _, rfl, by go_num⟩
  case round =>
    obtain ⟨k, hk, rfl, rfl⟩ := hrel
    by_cases hlt : k < n
    · have i1 := idx2_of (c := c1) H1.adr hlt .i64
      have d1 := H1.cell (k * 2) (by omega)
      have d2 := H1.cell (k * 2 + 1) (by omega)
      rw [run_getD _ _ _ (by omega)] at d1 d2
      rw [show k0 + ((k * 2 : Nat) : Int) = k0 + 2 * k by omega] at d1
      rw [show k0 + ((k * 2 + 1 : Nat) : Int) = k0 + 2 * k + 1 by omega] at d2
      go_wp2
      go_round
      case rel => exact ⟨k + 1, by omega, by go_num, by go_num⟩
      case measure => simp [intOf]; omega
    · obtain rfl : k = n := by omega
      go_wp2
      go_ret
      exact ⟨rfl, Below.refl _ _⟩

end Go.Proofs.Ytkmaglifohffnaa
