/- Choices drawn from bytes: next, pick, one, from. -/
import Derived.Test.YtfdacodbiodiaaaGreatDoorRows
import Derived.Test.YtfdacodbiodiaaaGreatDoorBase
import Derived.Test.YtfdacodbiodiaaaGreatDoorOwn
import Derived.Test.YtfdacodbiodiaaaGreatDoorNew
import Derived.Test.YtfdacodbiodiaaaGreatDoorBits
namespace Go.Proofs.YtfdacodbiodiaaaGreatDoor
set_option linter.unusedVariables false
set_option linter.unusedSimpArgs false
open Go.ChangeShapes Go.WideShapes Go.ChangeAt Go.RowKit

/-- v is a slice of bytes, all in blocks below hi -/
def BytesB (w : World) (v : Value) (hi : Nat) : Prop :=
  ∃ ao b o n c, v = .slice ao n c ∧ n ≤ 1048576 ∧ (0 < n → ao = some ⟨b, o, none⟩ ∧ b < hi) ∧ ∀ k, k < n → ∃ x : Int, w.cell? ⟨b, o + k, none⟩ = some (.int .u8 x) ∧ 0 ≤ x ∧ x ≤ 255
theorem BytesB.of_cells {w w' : World} {v : Value} {hi : Nat} (h : BytesB w v hi) (hc : ∀ b o, b < hi → w'.cell? ⟨b, o, none⟩ = w.cell? ⟨b, o, none⟩) : BytesB w' v hi := by
  obtain ⟨ao, b, o, n, c, hv, hn, ha, hx⟩ := h
  refine ⟨ao, b, o, n, c, hv, hn, ha, fun k hk => ?_⟩
  obtain ⟨x, h1, h2⟩ := hx k hk
  exact ⟨x, (hc b _ (ha (by omega)).2).trans h1, h2⟩
/-- block sb is a source of choices that has read at most m bytes -/
def SrcIn (w : World) (sb m : Nat) : Prop :=
  ∃ (v : Value) (k : Nat) (sd : Int), w.cell? ⟨sb, 0, none⟩ = some v ∧ w.cell? ⟨sb, 1, none⟩ = some (.int .i64 k) ∧ w.cell? ⟨sb, 2, none⟩ = some (.int .u64 sd) ∧ w.frozen? ⟨sb, 1, none⟩ = false ∧ w.frozen? ⟨sb, 2, none⟩ = false ∧ k ≤ m ∧ 0 ≤ sd ∧ sd ≤ 18446744073709551615 ∧ BytesB w v sb
theorem SrcIn.mono {w : World} {sb m m' : Nat} (h : SrcIn w sb m) (hm : m ≤ m') : SrcIn w sb m' := by
  obtain ⟨v, k, sd, a, b, c, d, e, f, g⟩ := h
  exact ⟨v, k, sd, a, b, c, d, e, by omega, g⟩
theorem SrcIn.below {w w' : World} {sb m : Nat} (h : SrcIn w sb m) (hb : Below w.heap.size w w') : SrcIn w' sb m := by
  obtain ⟨v, k, sd, a, b, c, d, e, f, g1, g2, g⟩ := h
  have hl : sb < w.heap.size := block_lt_of_cell a
  exact ⟨v, k, sd, below_cell hb a, below_cell hb b, below_cell hb c, (hb.frozen (p := ⟨sb, 1, none⟩) hl).trans d, (hb.frozen (p := ⟨sb, 2, none⟩) hl).trans e, f, g1, g2, g.of_cells fun b o hb' => hb.cell (p := ⟨b, o, none⟩) (by show b < w.heap.size; omega)⟩
/-- another block has changed -/
theorem SrcIn.grown {w w' : World} {sb m : Nat} {row : Option Nat} (h : SrcIn w sb m) (hg : w.grownBy w' row) (hr : ∀ g, row = some g → sb < g) : SrcIn w' sb m := by
  obtain ⟨v, k, sd, a, b, c, d, e, f, g1, g2, g⟩ := h
  have hl : sb < w.heap.size := block_lt_of_cell a
  have blk : ∀ k, k ≤ sb → w'.heap[k]? = w.heap[k]? := fun k hk => hg.block k (by omega) (fun e => by have := hr k e.symm; omega)
  have hc : ∀ b o, b ≤ sb → w'.cell? ⟨b, o, none⟩ = w.cell? ⟨b, o, none⟩ := fun b o hb => World.cell?_of_block (a := ⟨b, o, none⟩) (blk b hb)
  exact ⟨v, k, sd, (hc _ _ (Nat.le_refl _)).trans a, (hc _ _ (Nat.le_refl _)).trans b, (hc _ _ (Nat.le_refl _)).trans c, (World.frozen?_of_block (a := ⟨sb, 1, none⟩) (blk sb (Nat.le_refl _))).trans d, (World.frozen?_of_block (a := ⟨sb, 2, none⟩) (blk sb (Nat.le_refl _))).trans e, f, g1, g2, g.of_cells fun b o hb => hc b o (by omega)⟩

theorem draw_val {X : Int} (h0 : 0 ≤ X) (h1 : X ≤ 18446744073709551615) : ∃ y : Nat, wrap64 (bits .and .u64 (X / 1099511627776) 255) = (y : Int) ∧ y ≤ 255 := by
  obtain ⟨a, ha⟩ : ∃ a : Nat, X / 1099511627776 = (a : Int) := ⟨(X / 1099511627776).toNat, by omega⟩
  have hl : a < 1099511627776 := by omega
  have h := and_u64 (a := a) (b := 255) hl (by omega)
  have h2 : a &&& 255 ≤ 255 := Nat.and_le_right
  refine ⟨a &&& 255, ?_, h2⟩
  rw [ha, show (255 : Int) = ((255 : Nat) : Int) from rfl, h]
  generalize a &&& 255 = y at h2
  unfold wrap64
  omega
theorem w64_lo (z : Int) : 0 ≤ IntKind.u64.wrap z := by rw [IntKind.wrap_u64]; omega
theorem w64_hi (z : Int) : IntKind.u64.wrap z ≤ 18446744073709551615 := by rw [IntKind.wrap_u64]; omega
theorem grown_set (W : World) (b o : Nat) (v : Value) : W.grownBy (W.setCell ⟨b, o, none⟩ v) (some b) :=
  ⟨rfl, rfl, rfl, by simp, fun k hk hne => Below.heap_setCell _ _ _ k (fun e => hne (by rw [e]))⟩

def DrawRet (sb m : Nat) (lo hi : Int) (w : World) (e : Ending) (w' : World) : Prop :=
  ∃ y : Int, e = .returned (.int .i64 y) ∧ lo ≤ y ∧ y ≤ hi ∧ SrcIn w' sb m ∧ w.grownBy w' (some sb) ∧ w'.heap.size = w.heap.size

theorem src_step {w : World} {sb k m : Nat} {sd sd' : Int} {v : Value} (c0 : w.cell? ⟨sb, 0, none⟩ = some v) (c1 : w.cell? ⟨sb, 1, none⟩ = some (.int .i64 k)) (c2 : w.cell? ⟨sb, 2, none⟩ = some (.int .u64 sd)) (f1 : w.frozen? ⟨sb, 1, none⟩ = false) (f2 : w.frozen? ⟨sb, 2, none⟩ = false) (hk : k ≤ m) (h0 : 0 ≤ sd') (h1 : sd' ≤ 18446744073709551615) (HB : BytesB w v sb) :
    SrcIn ((w.setCell ⟨sb, 1, none⟩ (.int .i64 ((k : Int) + 1))).setCell ⟨sb, 2, none⟩ (.int .u64 sd')) sb (m + 1) ∧ w.grownBy ((w.setCell ⟨sb, 1, none⟩ (.int .i64 ((k : Int) + 1))).setCell ⟨sb, 2, none⟩ (.int .u64 sd')) (some sb) ∧ ((w.setCell ⟨sb, 1, none⟩ (.int .i64 ((k : Int) + 1))).setCell ⟨sb, 2, none⟩ (.int .u64 sd')).heap.size = w.heap.size := by
  refine ⟨⟨v, k + 1, sd', by go_simp, by go_simp, by go_simp, by go_simp, by go_simp, by omega, h0, h1, HB.of_cells fun b o hb => ?_⟩, ?_, by simp⟩
  · have : b ≠ sb := by omega
    go_simp
  · exact grown_trans (grown_set _ _ _ _) (grown_set _ _ _ _)

set_option maxRecDepth 100000 in
theorem next_any (sb m : Nat) (w : World) (h : SrcIn w sb m) (hm : m ≤ 1000000) :
    Calls Tryz.prog 66 #[.pointer (some ⟨sb, 0, none⟩)] w (DrawRet sb (m + 1) 0 255 w) := by
  obtain ⟨v, k, sd, c0, c1, c2, f1, f2, hk, hs0, hs1, HBY⟩ := h
  obtain ⟨ao, b, o, n, c, rfl, hn, ha, hx⟩ := HBY
  have lsb := block_lt_of_cell c0
  by_cases hlt : k < n
  · obtain ⟨e1, e2⟩ := ha (by omega)
    subst e1
    obtain ⟨x, dx, hx0, hx1⟩ := hx k hlt
    have i1 := idx_of Tryz.underlying22 (fun _ => by kernel_rfl : ∀ w, (sizeOf 5).run Tryz.prog w = .ok 1 w) (ao := some ⟨b, o, none⟩) (b := b) (o := o) (n := n) (c := c) (fun _ => rfl) hlt .i64
    have HBB : Hid (BytesB w (.slice (some ⟨b, o, none⟩) n c) sb) := ⟨_, b, o, n, c, rfl, hn, fun _ => ⟨rfl, e2⟩, hx⟩
    have hne : b ≠ sb := by omega
    have hcd2 : (k : Int) + 1 ≤ (n : Int) := by omega
    clear hx ha
    go_enter Tryz.func66, Tryz.ntmps66
    go_wp2
    go_region
    go_wp2
    go_region
    go_wp2
    go_region
    go_wp2
    go_ret
    obtain ⟨q1, q2, q3⟩ := src_step c0 c1 c2 f1 f2 hk (w64_lo _) (w64_hi _) HBB.out
    exact ⟨x, rfl, hx0, hx1, q1, ⟨q2.os, q2.tape, q2.output, q2.size, q2.block⟩, q3⟩
  · have HBB : Hid (BytesB w (.slice ao n c) sb) := ⟨ao, b, o, n, c, rfl, hn, ha, hx⟩
    have hcd : ¬ ((k : Int) < (n : Int)) := by omega
    have hcd2 : ¬ ((k : Int) + 1 ≤ (n : Int)) := by omega
    clear hx ha
    go_enter Tryz.func66, Tryz.ntmps66
    go_wp2
    go_region
    go_wp2
    go_region
    go_wp2
    go_ret
    obtain ⟨q1, q2, q3⟩ := src_step c0 c1 c2 f1 f2 hk (w64_lo _) (w64_hi _) HBB.out
    obtain ⟨y, hy, hy2⟩ := draw_val (w64_lo (IntKind.u64.wrap (IntKind.u64.wrap (sd * 6364136223846793005)) + 1442695040888963407)) (w64_hi _)
    exact ⟨(y : Int), by rw [← hy]; rfl, by omega, by omega, q1, ⟨q2.os, q2.tape, q2.output, q2.size, q2.block⟩, q3⟩

set_option maxRecDepth 100000 in
theorem pick_any (sb m : Nat) (n : Int) (w : World) (h : SrcIn w sb m) (hm : m ≤ 1000000) (hn : n ≤ 200) :
    Calls Tryz.prog 43 #[.pointer (some ⟨sb, 0, none⟩), .int .i64 n] w fun e w' => ∃ y : Int, e = .returned (.int .i64 y) ∧ 0 ≤ y ∧ (1 ≤ n → y < n) ∧ SrcIn w' sb (m + 1) ∧ w.grownBy w' (some sb) ∧ w'.heap.size = w.heap.size := by
  have HN := Lib.hid (next_any sb m w h hm)
  have HS := Lib.hid (h.mono (Nat.le_succ m))
  clear h
  by_cases h1 : n ≤ 1
  · go_enter Tryz.func43, Tryz.ntmps43
    go_wp2
    go_ret
    exact ⟨0, rfl, by omega, by omega, HS.out, World.grownBy.refl _ _, rfl⟩
  · have h2 : ¬ (200 < n) := by omega
    go_enter Tryz.func43, Tryz.ntmps43
    go_wp2_with fail
    refine HN.out.mono ?_
    rintro e w1 ⟨y, rfl, hy0, hy1, hs, hg, hz⟩
    have HS1 := Lib.hid hs
    have HG1 := Lib.hid hg
    have hne : n ≠ 0 := by omega
    clear hs hg
    go_wp2
    go_ret
    exact ⟨y % n, rfl, Int.emod_nonneg _ hne, fun _ => Int.emod_lt_of_pos _ (by omega), HS1.out, HG1.out, hz⟩

set_option maxRecDepth 100000 in
theorem one_any (sb m : Nat) (n : Int) (w : World) (h : SrcIn w sb m) (hm : m ≤ 1000000) (hn : n ≤ 200) :
    Calls Tryz.prog 50 #[.pointer (some ⟨sb, 0, none⟩), .int .i64 n] w fun e w' => ∃ y : Bool, e = .returned (.bool y) ∧ SrcIn w' sb (m + 1) ∧ w.grownBy w' (some sb) ∧ w'.heap.size = w.heap.size := by
  have HN := Lib.hid (pick_any sb m n w h hm hn)
  clear h
  go_enter Tryz.func50, Tryz.ntmps50
  go_wp2_with fail
  refine HN.out.mono ?_
  rintro e w1 ⟨y, rfl, hy0, hy1, hs, hg, hz⟩
  have HS1 := Lib.hid hs
  have HG1 := Lib.hid hg
  obtain ⟨b, hb⟩ : ∃ b, b = (y == 0) := ⟨_, rfl⟩
  clear hs hg
  go_wp2
  go_ret
  exact ⟨_, rfl, HS1.out, HG1.out, hz⟩

theorem from_any (v : Value) (w : World) (h : BytesB w v w.heap.size) :
    Calls Tryz.prog 21 #[v] w fun e w' => e = .returned (.pointer (some ⟨w.heap.size, 0, none⟩)) ∧ SrcIn w' w.heap.size 0 ∧ Below w.heap.size w w' ∧ w'.heap.size = w.heap.size + 1 := by
  obtain ⟨ao, b, o, n, c, rfl, hn, ha, hx⟩ := h
  have HBB : Hid (BytesB (w.alloc (.cells #[.slice ao n c, .int .i64 0, .int .u64 0] 92)) (.slice ao n c) w.heap.size) := BytesB.of_cells (w := w) ⟨ao, b, o, n, c, rfl, hn, ha, hx⟩ (fun b o hb => World.cell?_alloc_old _ _ _ (by show b ≠ w.heap.size; omega))
  clear ha hx
  go_enter Tryz.func21, Tryz.ntmps21
  go_wp2
  go_ret
  exact ⟨rfl, ⟨_, 0, 0, by go_simp, by go_simp, by go_simp, by go_simp, by go_simp, Nat.le_refl _, by omega, by omega, HBB.out⟩, below_alloc (Below.refl _ _) _, by simp⟩
end Go.Proofs.YtfdacodbiodiaaaGreatDoor
