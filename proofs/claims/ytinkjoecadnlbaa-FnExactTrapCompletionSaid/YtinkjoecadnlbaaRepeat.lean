/- slices.Repeat of a list of one number. -/
import Derived.Test.YtinkjoecadnlbaaNew
import Derived.Test.YtinkjoecadnlbaaStep
import Derived.Laws.CopyOwn
import Derived.Test.YtinkjoecadnlbaaTourS
import Derived.Deep.RegionLaw
import Derived.Shelf.Bits.Mul64
import Derived.Test.YtinkjoecadnlbaaLayMul
import Derived.Test.YtinkjoecadnlbaaChecked
namespace Go.Proofs.Ytinkjoecadnlbaa
set_option linter.unusedVariables false
set_option linter.unusedSimpArgs false
open Go.ChangeShapes Go.WideShapes Go.ChangeAt Go.RowKit Go.Shelf

/-- k times z, then zeros -/
def repRow (m k : Nat) (z : Int) : List Value := List.replicate k (Value.int .i64 z) ++ List.replicate (m - k) (Value.int .i64 0)
theorem repRow_len {m k : Nat} (z : Int) (h : k ≤ m) : (repRow m k z).length = m := by simp [repRow]; omega
theorem repRow_splice {m k : Nat} (z : Int) (j : Nat) (h : k + j ≤ m) : splice (repRow m k z) k (List.replicate j (Value.int .i64 z)) = repRow m (k + j) z := by
  unfold splice repRow
  rw [List.take_left' (by simp), List.drop_append, List.length_replicate, List.length_replicate]
  rw [show List.drop (k + j) (List.replicate k (Value.int .i64 z)) = [] from List.drop_eq_nil_of_le (by simp), List.nil_append, List.drop_replicate, show k + j - k = j by omega, show m - k - j = m - (k + j) by omega, ← List.append_assoc, List.replicate_append_replicate]
theorem repRow_get {m k : Nat} (z : Int) {j : Nat} (h : j < k) : (repRow m k z)[j]? = some (.int .i64 z) := by
  unfold repRow
  rw [List.getElem?_append_left (by simpa using h)]
  simp [h]
theorem repRow_all (m : Nat) (z : Int) : repRow m m z = (List.replicate m z).map (Value.int .i64) := by simp [repRow]
theorem made_zeros (m : Nat) : (madeCells (Value.cells (.int .i64 0)) (m * 1)).toList = repRow m 0 0 := by
  show (madeCells #[Value.int .i64 0] (m * 1)).toList = _
  rw [toList_madeCells_one]
  simp [repRow]
theorem repRow_zero (m : Nat) (z : Int) : repRow m 0 z = repRow m 0 0 := by simp [repRow]
theorem block_of_own {w : World} {lo g m : Nat} {e : TypeId} {xs : List Value} (h : w.ownsRow lo e 1 (.slice (some ⟨g, 0, none⟩) m m) m xs) : w.heap[g]? = some (.cells xs.toArray e (0, 0)) := by
  have hl := h.1
  rcases h.2 with ⟨h0, _⟩ | ⟨g', cap, cur, hv, _, hg, _, _, hcs, htake⟩
  · cases h0
  · simp at hv
    obtain ⟨rfl, rfl⟩ := hv
    rw [hg]
    rw [List.take_of_length_le (by simp; omega)] at htake
    rw [← htake]
theorem own_of_block {w : World} {lo g m : Nat} {e : TypeId} {xs : List Value} (h : w.heap[g]? = some (.cells xs.toArray e (0, 0))) (hl : xs.length = m) (hg : lo ≤ g) (hm : m ≤ maxLen) : w.ownsRow lo e 1 (.slice (some ⟨g, 0, none⟩) m m) m xs :=
  ⟨by omega, .inr ⟨g, m, xs.toArray, rfl, hg, h, Nat.le_refl _, hm, by simp [hl], by rw [List.take_of_length_le (by simp; omega)]⟩⟩
theorem cell_of_block {w : World} {g : Nat} {e : TypeId} {xs : List Value} (h : w.heap[g]? = some (.cells xs.toArray e (0, 0))) (j : Nat) : w.cell? ⟨g, j, none⟩ = xs[j]? := by
  rw [cell_of_row w g j xs.toArray e (0, 0) h]
  simp

set_option maxRecDepth 100000 in
set_option maxHeartbeats 4000000 in
theorem repeat_any (g m : Nat) (z : Int) (w : World) (hm : m ≤ 40) (hc : w.cell? ⟨g, 0, none⟩ = some (.int .i64 z)) :
    Calls Try.prog 18 #[.slice (some ⟨g, 0, none⟩) 1 1, .int .i64 m] w (NewInts (List.replicate m z) w) := by
  have hmul := Any.bits_Mul Try.lmul 1 m (by decide) (by omega) w
  change Calls Try.prog 34 _ _ _ at hmul
  rw [show 1 * m / 18446744073709551616 = 0 by omega, show 1 * m % 18446744073709551616 = m by omega] at hmul
  have HMUL := Lib.hid hmul
  obtain ⟨i0, hi, hz0, hz1, hz2⟩ := info_parts elem_int.info
  have hgw := block_lt_of_cell hc
  have hu : IntKind.u64.wrap (m : Int) = (m : Int) := by rw [IntKind.wrap_u64]; omega
  have hw2 : IntKind.i64.wrap (m : Int) = (m : Int) := by rw [IntKind.wrap_i64]; omega
  have hsz : (Try.prog.info? 2).map (·.size) = some 1 := by rw [hi]; simp [hz1]
  clear hmul
  have hnl : ¬ ((m : Int) < 0) := by omega
  go_enter Try.func18, Try.ntmps18
  go_wp2_with fail
  refine HMUL.out.mono ?_
  rintro e w1 ⟨rfl, rfl⟩
  have hcs : Hid ((List.replicate (min 1 m) (Value.int .i64 z)).length = Nat.min 1 m) := by simp [Hid]
  have HFIT : Hid (0 + (List.replicate (min 1 m) (Value.int .i64 z)).length ≤ (repRow m 0 z).length) := by unfold Hid; rw [repRow_len z (Nat.zero_le _), List.length_replicate]; omega
  have HONE : Hid (∀ v ∈ List.replicate (min 1 m) (Value.int .i64 z), v.oneCell' = true) := fun v hv => by rw [(List.mem_replicate.1 hv).2]; rfl
  have HSRC : Hid (∀ W : World, W.cell? ⟨g, 0, none⟩ = some (.int .i64 z) → ∀ j v, (List.replicate (min 1 m) (Value.int .i64 z))[j]? = some v → W.cell? ((⟨g, 0, none⟩ : Addr).add j) = some v) := by
    intro W hW j v hj
    have hjl := (List.getElem?_eq_some_iff.1 hj).1
    simp at hjl
    obtain rfl : j = 0 := by omega
    rw [Addr.add_zero', hW]
    rw [List.getElem?_replicate, if_pos hjl] at hj
    exact hj
  go_wp2_with (first
    | (at_make; refine wpList_make_full _ rfl _ _ 39 rfl w1.heap.size 2 i0 (.int .i64 0) 1 Try.underlying39 hi hz0 hz1 .i64 .i64 _ _ m rfl rfl (by simp) (by simp) (by rw [hz2]; omega) (by unfold maxLen; omega) (Nat.le_refl _) ?_; intro w2 hown hgr; have hbk := block_of_own hown; rw [made_zeros, ← repRow_zero m z] at hbk; have hb2 := Below.of_grown_none hgr; have hc2 := below_cell hb2 hc)
    | (refine wpList_copy_splice rfl (.tmp 31) (.tmp 32) 39 39 rfl 2 Try.underlying39 hsz _ _ _ _ _ _ rfl rfl w1.heap.size 0 (repRow m 0 z) 2 hbk (List.replicate (min 1 m) (Value.int .i64 z)) hcs.out (fun _ => ⟨rfl, _, rfl, HSRC.out _ hc2⟩) HFIT.out HONE.out w1.heap.size w1 hb2 (Nat.le_refl _) ?_; intro w3 hg3 hb3))
  have hk0 : min 1 m ≤ m := Nat.min_le_right _ _
  have hp0 : 0 < m → 0 < min 1 m := by omega
  have hR0 : w3.heap[w1.heap.size]? = some (.cells (repRow m (min 1 m) z).toArray 2 (0, 0)) := by
    have := hg3.out
    rw [repRow_splice z (min 1 m) (by omega), Nat.zero_add] at this
    exact this
  have HR0 := Lib.hid hR0
  obtain ⟨k0, hk0e⟩ : ∃ k0, k0 = min 1 m := ⟨_, rfl⟩
  rw [← hk0e] at hk0 hp0 HR0
  rw [← hk0e]
  clear hR0 hk0e hg3 hbk hcs HFIT HONE HSRC hown hc2 hc hgr hb2 hu hw2 HMUL
  go_loopw [8] (fun i wr => ∃ k : Nat, k ≤ m ∧ (0 < m → 0 < k) ∧ i = .int .i64 k ∧ Hid (wr.heap[w1.heap.size]? = some (.cells (repRow m k z).toArray 2 (0, 0))) ∧ Below w1.heap.size w1 wr) (fun i _ => m - (intOf i).toNat)
  case atStart => exact ⟨k0, hk0, hp0, rfl, HR0.out, hb3⟩
  case round =>
    obtain ⟨k, hk, hp, rfl, HR, hb⟩ := hrel
    by_cases hlt : k < m
    · have hk1 := hp (by omega)
      obtain ⟨j, hj⟩ : ∃ j, j = min k (m - k) := ⟨_, rfl⟩
      have hjk : j ≤ k := by omega
      have hjm : k + j ≤ m := by omega
      have hj1 : 0 < j := by omega
      have HCS : Hid ((List.replicate j (Value.int .i64 z)).length = Nat.min k (m - k)) := by unfold Hid; rw [List.length_replicate]; exact hj
      have HFIT : Hid (k + (List.replicate j (Value.int .i64 z)).length ≤ (repRow m k z).length) := by unfold Hid; rw [repRow_len z hk, List.length_replicate]; omega
      have HONE : Hid (∀ v ∈ List.replicate j (Value.int .i64 z), v.oneCell' = true) := fun v hv => by rw [(List.mem_replicate.1 hv).2]; rfl
      have HSRC : Hid (∀ i v, (List.replicate j (Value.int .i64 z))[i]? = some v → wr.cell? ((⟨w1.heap.size, 0, none⟩ : Addr).add i) = some v) := by
        intro i v hi
        have hil := (List.getElem?_eq_some_iff.1 hi).1
        simp at hil
        rw [Addr.add_lit, Nat.zero_add, cell_of_block HR.out, repRow_get z (by omega)]
        rw [List.getElem?_replicate, if_pos hil] at hi
        exact hi
      have HJ := Lib.hid hj
      clear hj hp
      have hbd := hb.drew
      have hne : ¬ (m = k) := by omega
      have hkm : k ≤ m := by omega
      go_wp2
      go_region_law (refine step_copy_splice rfl (.tmp 41) (.tmp 44) 39 39 rfl 2 Try.underlying39 hsz (some ⟨w1.heap.size, k, none⟩) (some ⟨w1.heap.size, 0, none⟩) (m - k) (m - k) k m (by go_simp) (by go_simp) w1.heap.size k (repRow m k z) 2 HR.out (List.replicate j (Value.int .i64 z)) HCS.out (fun _ => ⟨rfl, _, rfl, HSRC.out⟩) HFIT.out HONE.out w1.heap.size w1 hbd (Nat.le_refl _) ?_; intro w4 hg4 hb4)
      all_goals
        have hR4 : Hid (w4.heap[w1.heap.size]? = some (.cells (repRow m (k + j) z).toArray 2 (0, 0))) := by
          have := hg4.out
          rw [repRow_splice z j hjm] at this
          exact this
        have hwk : IntKind.i64.wrap ((k : Int) + (j : Int)) = (k : Int) + (j : Int) := by rw [IntKind.wrap_i64]; omega
        clear hg4
        go_simp
        go_wp2
        go_roundw
        case rel => exact ⟨k + j, hjm, fun _ => by omega, by first | rfl | go_num | (rw [hwk]; rfl), hR4.out, hb4⟩
        case measure => simp [intOf]; omega
    · obtain rfl : k = m := by omega
      go_wp2
      go_ret
      refine ⟨_, rfl, ?_, hb⟩
      rw [← repRow_all, List.length_replicate]
      exact own_of_block HR.out (repRow_len z (Nat.le_refl _)) (Nat.le_refl _) (by unfold maxLen; omega)

end Go.Proofs.Ytinkjoecadnlbaa
