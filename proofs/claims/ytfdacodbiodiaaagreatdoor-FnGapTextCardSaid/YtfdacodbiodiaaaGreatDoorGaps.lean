/- Gaps: the gaps of a partial automaton, of both sides; the laws' helpers at lists of gaps. -/
import Derived.Test.YtfdacodbiodiaaaGreatDoorValidPart
import Derived.Test.YtfdacodbiodiaaaGreatDoorSpecPart
import Derived.Test.YtfdacodbiodiaaaGreatDoorGood
import Derived.Test.YtfdacodbiodiaaaGreatDoorNew
import Derived.Test.YtfdacodbiodiaaaGreatDoorStep
namespace Go.Proofs.YtfdacodbiodiaaaGreatDoor
set_option linter.unusedVariables false
set_option linter.unusedSimpArgs false
open Go.ChangeShapes Go.WideShapes Go.ChangeAt Go.RowKit

structure GoodP (st : Int) (n : Nat) (xss : List (List Int)) : Prop where
  st : st = n
  lo : 1 ≤ n
  hi : n ≤ 10
  len1 : 1 ≤ xss.length
  len3 : xss.length ≤ 3
  rows : ∀ r ∈ xss, r.length = n ∧ ∀ z ∈ r, -1 ≤ z ∧ z < n
theorem goodP_of {st : Int} {xss : List (List Int)} (h : validP st xss = true) : ∃ n : Nat, GoodP st n xss := by
  unfold validP at h
  rw [Bool.and_eq_true, Bool.and_eq_true] at h
  obtain ⟨h1, h2, h3⟩ := h
  have h1' := inB_true.1 h1
  have h2' := inB_true.1 h2
  refine ⟨st.toNat, by omega, by omega, by omega, by omega, by omega, fun r hr => ?_⟩
  unfold rowsP at h3
  have := List.all_eq_true.1 h3 r hr
  rw [Bool.and_eq_true] at this
  obtain ⟨a, b⟩ := this
  have a' := of_decide_eq_true a
  refine ⟨by omega, fun z hz => ?_⟩
  have := allIn_iff.1 b z hz
  omega
theorem GoodP.row {st : Int} {n : Nat} {xss : List (List Int)} (h : GoodP st n xss) {x : Nat} (hx : x < xss.length) : (xss.getD x []).length = n := (h.rows _ (getD_mem hx _)).1
theorem GoodP.val {st : Int} {n : Nat} {xss : List (List Int)} (h : GoodP st n xss) {x s : Nat} (hx : x < xss.length) (hs : s < n) : -1 ≤ (xss.getD x []).getD s 0 ∧ (xss.getD x []).getD s 0 < n :=
  (h.rows _ (getD_mem hx _)).2 _ (getD_mem (by rw [h.row hx]; exact hs) _)

/-- the gaps of row l below k; of the rows below k; the numbers in memory -/
def gapRow (l : Nat) (row : List Int) (k : Nat) : List (Int × Int) := ((List.range k).filter fun s => decide (row.getD s 0 < 0)).map fun (s : Nat) => ((l : Int), (s : Int))
def gapsTo (xss : List (List Int)) (k : Nat) : List (Int × Int) := ((List.range k).map fun l => gapRow l (xss.getD l []) (xss.getD l []).length).flatten
def gapsAt (xss : List (List Int)) (k s : Nat) : List (Int × Int) := gapsTo xss k ++ gapRow k (xss.getD k []) s
def gapsOf (xss : List (List Int)) : List (Int × Int) := gapsTo xss xss.length
def gapInts (gs : List (Int × Int)) : List Int := gs.flatMap fun g => [g.1, g.2]
def gapVals (gs : List (Int × Int)) : List Value := (gapInts gs).map (Value.int .i64)
theorem gapInts_len (gs : List (Int × Int)) : (gapInts gs).length = 2 * gs.length := by
  induction gs with
  | nil => rfl
  | cons g gs ih => simp only [gapInts, List.flatMap_cons, List.length_append, List.length_cons, List.length_nil] at ih ⊢; omega
theorem gapVals_snoc (gs : List (Int × Int)) (p q : Int) : gapVals gs ++ [.int .i64 p, .int .i64 q] = gapVals (gs ++ [(p, q)]) := by simp [gapVals, gapInts]
theorem gapRow_le (l : Nat) (row : List Int) (k : Nat) : (gapRow l row k).length ≤ k := by unfold gapRow; rw [List.length_map]; exact Nat.le_trans (List.length_filter_le _ _) (by simp)
theorem gapRow_succ (l : Nat) (row : List Int) (k : Nat) : gapRow l row (k + 1) = if row.getD k 0 < 0 then gapRow l row k ++ [((l : Int), (k : Int))] else gapRow l row k := by
  unfold gapRow
  rw [List.range_succ, List.filter_append, List.map_append]
  by_cases h : row.getD k 0 < 0
  · rw [if_pos h, List.filter_cons_of_pos (by exact decide_eq_true h)]; rfl
  · rw [if_neg h, List.filter_cons_of_neg (by rw [decide_eq_true_iff]; exact h)]; simp
theorem gapsTo_succ (xss : List (List Int)) (k : Nat) : gapsTo xss (k + 1) = gapsAt xss k (xss.getD k []).length := by
  unfold gapsTo gapsAt gapsTo
  rw [List.range_succ, List.map_append, List.flatten_append]; simp
theorem gapsAt_zero (xss : List (List Int)) (k : Nat) : gapsAt xss k 0 = gapsTo xss k := by simp [gapsAt, gapRow]
theorem gapsAt_yes {xss : List (List Int)} {k s : Nat} (h : (xss.getD k []).getD s 0 < 0) : gapsAt xss k (s + 1) = gapsAt xss k s ++ [((k : Int), (s : Int))] := by
  unfold gapsAt; rw [gapRow_succ, if_pos h, List.append_assoc]
theorem gapsAt_no {xss : List (List Int)} {k s : Nat} (h : ¬ (xss.getD k []).getD s 0 < 0) : gapsAt xss k (s + 1) = gapsAt xss k s := by
  unfold gapsAt; rw [gapRow_succ, if_neg h]
theorem gapsTo_len {st : Int} {n : Nat} {xss : List (List Int)} (h : GoodP st n xss) : ∀ k, k ≤ xss.length → (gapsTo xss k).length ≤ 10 * k := by
  intro k
  induction k with
  | zero => intro _; simp [gapsTo]
  | succ k ih =>
    intro hk
    have h1 := ih (by omega)
    rw [gapsTo_succ, gapsAt, List.length_append]
    have h2 := gapRow_le k (xss.getD k []) (xss.getD k []).length
    rw [h.row (by omega)] at h2 ⊢
    have := h.hi
    omega
theorem gapsAt_len {st : Int} {n : Nat} {xss : List (List Int)} (h : GoodP st n xss) {k s : Nat} (hk : k < xss.length) (hs : s ≤ n) : (gapsAt xss k s).length ≤ 40 := by
  have h1 := gapsTo_len h k (by omega)
  have h2 := gapRow_le k (xss.getD k []) s
  have := h.hi
  have := h.len3
  rw [gapsAt, List.length_append]
  omega
theorem gapsOf_len {st : Int} {n : Nat} {xss : List (List Int)} (h : GoodP st n xss) : (gapsOf xss).length ≤ 40 := by
  have := gapsTo_len h xss.length (Nat.le_refl _)
  have := h.len3
  unfold gapsOf
  omega

def NewGaps (gs : List (Int × Int)) (w : World) (e : Ending) (w' : World) : Prop :=
  ∃ v, e = .returned v ∧ w'.ownsRow w.heap.size 52 2 v gs.length (gapVals gs) ∧ Below w.heap.size w w'
def NewGaps2 (gs : List (Int × Int)) (code : Int) (w : World) (e : Ending) (w' : World) : Prop :=
  ∃ v, e = .returned (.tuple #[v, .int .i64 code]) ∧ w'.ownsRow w.heap.size 52 2 v gs.length (gapVals gs) ∧ Below w.heap.size w w'
theorem own_empty2 (w : World) (lo : Nat) (h : lo ≤ w.heap.size) (e : TypeId) : (w.alloc (.cells #[] e)).ownsRow lo e 2 (.slice (some ⟨w.heap.size, 0, none⟩) 0 0) 0 [] := World.ownsRow_made w #[] 0 h (by unfold maxLen; omega) (by simp)

theorem info_gap : (Tryz.prog.info? 52).map (fun i => (i.zero, i.size, i.bytes)) = some (some (.agg #[.int .i64 0, .int .i64 0]), 2, 16) := by kernel_rfl
theorem size2_gap : ∀ w, (sizeOf 52).run Tryz.prog w = .ok 2 w := fun _ => by kernel_rfl

theorem wpList_pushGap {w : World} {ops : Array Oper} {rest : List Oper} {o : Oper} {a : Act} {Q : Exit → Act → World → Prop} (hgd : o.guard = none) (s x : Operand)
    (ho : o.op = .call { callee := .builtin .append, args := #[s, x], argTypes := #[38, 38] })
    (lo : Nat) {v : Value} {n : Nat} {xs : List Value} (hs : a.eval s = v) (hown : w.ownsRow lo 52 2 v n xs) (p q : Int) (hx : a.eval x = .slice (some ⟨w.heap.size, 0, none⟩) 1 1)
    (hn : n ≤ 1000000) (hlo : lo ≤ w.heap.size)
    (h : ∀ v' w', w'.ownsRow lo 52 2 v' (n + 1) (xs ++ [.int .i64 p, .int .i64 q]) → w.grownBy w' v.ownBlock → wpList Tryz.prog ops Q rest (a.put o.dst v') w') :
    wpList Tryz.prog ops Q (o :: rest) a (w.alloc (.cells #[.int .i64 p, .int .i64 q] 52)) := by
  obtain ⟨i, hi, hz, hsz, hby⟩ := info_parts info_gap
  refine wpList_append_own _ hgd s x 38 ho lo 52 i _ 2 16 Tryz.underlying38 hi hz hsz hby rfl (by decide) v n xs hs (hown.alloc _) ⟨w.heap.size, 0, none⟩ 1 1 [.int .i64 p, .int .i64 q] hx rfl ?_ ?_ (by unfold maxLen; omega) (by omega) (by simp; omega) ?_
  · intro j y hj
    match j, hj with
    | 0, hj => simp at hj; subst hj; simp [Addr.add]
    | 1, hj => simp at hj; subst hj; simp [Addr.add]
  · intro y hy
    simp at hy
    rcases hy with rfl | rfl <;> rfl
  · intro v' w' h1 h2 h3
    exact h v' w' h1 ⟨h2.os, h2.tape, h2.output, by have := h2.size; simp at this; omega, fun k hk hr => (h2.block k (by simp; omega) hr).trans (Below.heap_alloc w _ k hk)⟩

set_option maxRecDepth 100000 in
set_option maxHeartbeats 4000000 in
theorem l04Gaps_any (b : Nat) (st : Int) (v : Value) (xss : List (List Int)) (n : Nat) (w : World) (d0 : w.cell? ⟨b, 0, none⟩ = some (.int .i64 st)) (d1 : w.cell? ⟨b, 1, none⟩ = some v) (h1 : Rows2 w v xss) (hg : GoodP st n xss) :
    Calls Tryz.prog 46 #[.pointer (some ⟨b, 0, none⟩)] w (NewGaps (gapsOf xss) w) := by
  obtain ⟨ao1, p1, o1, c1, H1⟩ := h1.open
  have hv := H1.val
  subst hv
  have hm := H1.len
  have HG := Lib.hid hg
  have hl3 := hg.len3
  have hn10 := hg.hi
  have z0 := block_lt_of_cell d0
  have HE := Lib.hid (own_empty2 w w.heap.size (Nat.le_refl _) 52)
  clear hg h1
  go_enter Tryz.func46, Tryz.ntmps46
  go_wp2
  go_loopw [3, 4, 5] (fun u i _ wr => ∃ k : Nat, k ≤ xss.length ∧ i = .int .i64 k ∧ Hid (wr.ownsRow w.heap.size 52 2 u (gapsTo xss k).length (gapVals (gapsTo xss k))) ∧ Below w.heap.size w wr) (fun _ i _ _ => xss.length - (intOf i).toNat)
  case atStart => exact ⟨0, Nat.zero_le _, rfl, HE.out, below_alloc (Below.refl _ _) _⟩
  case round =>
    obtain ⟨k, hk, rfl, HO, hb⟩ := hrel
    obtain ⟨wo, rfl⟩ : ∃ wo : World, wo = wr := ⟨_, rfl⟩
    have e0 := below_cell hb d0
    have e1 := below_cell hb d1
    by_cases hlt : k < xss.length
    · have i1 := idx_of Tryz.underlying24 size1_ints (c := c1) H1.adr hlt .i64
      obtain ⟨r1, d2, hr1⟩ := H1.cell k hlt
      obtain ⟨ao2, p2, o2, c2, H2⟩ := hr1.open
      have hv2 := H2.val
      subst hv2
      have hm2 := H2.len
      have hrl := HG.out.row hlt
      have A2 := H2.adr
      rw [hrl] at A2 d2 hm2
      have e2 := below_cell hb d2
      have HRL := Lib.hid hrl
      have HO0 := HO.out
      rw [← gapsAt_zero] at HO0
      have HO1 := Lib.hid HO0
      have HUP := Lib.hid (gapsTo_succ xss k)
      have HGL := Lib.hid (fun s (hs : s ≤ n) => gapsAt_len HG.out hlt hs)
      have HGY := Lib.hid (fun s => gapsAt_yes (xss := xss) (k := k) (s := s))
      have HGN := Lib.hid (fun s => gapsAt_no (xss := xss) (k := k) (s := s))
      clear hrl hr1 HO HO0
      go_wp2
      go_loopw [3, 5] (fun u i wr => ∃ s : Nat, s ≤ n ∧ i = .int .i64 s ∧ Hid (wr.ownsRow w.heap.size 52 2 u (gapsAt xss k s).length (gapVals (gapsAt xss k s))) ∧ Below w.heap.size w wr) (fun _ i _ => n - (intOf i).toNat)
      case atStart => exact ⟨0, Nat.zero_le _, rfl, HO1.out, hb⟩
      case round =>
        obtain ⟨s, hs, rfl, HX, hbx⟩ := hrel
        have f1 := below_cell hbx d1
        have f2 := below_cell hbx d2
        have hlen := HGL.out s hs
        by_cases hlt2 : s < n
        · have i2 := idx_of Tryz.underlying45 size1_int (c := c2) A2 hlt2 .i64
          have d3 := H2.cell s (by rw [HRL.out]; exact hlt2)
          have f3 := below_cell hbx d3
          obtain ⟨z, hz⟩ : ∃ z, z = (xss.getD k []).getD s 0 := ⟨_, rfl⟩
          rw [← hz] at f3
          clear d3
          by_cases hzn : z < 0
          · have HY := HGY.out s (by rw [← hz]; omega)
            have HYY := Lib.hid HY
            have HZ := Lib.hid hz
            clear HY hz
            go_wp2_with (at_builtin; refine wpList_pushGap rfl (.tmp 39) (.tmp 43) rfl w.heap.size rfl HX.out _ _ rfl (by omega) hbx.size ?_; intro v' w6 hown' hgr)
            have hb6 : Below w.heap.size w w6 := Below.grown hbx hgr hbx.size (fun g hg => (own_block HX.out hg).1)
            have HOW := Lib.hid hown'
            clear hown' hgr
            go_wp2
            go_roundw
            case rel => exact ⟨s + 1, by omega, by go_num, by
              have h := HOW.out
              rw [gapVals_snoc] at h
              rw [HYY.out, List.length_append]
              exact h, hb6⟩
            case measure => simp [intOf]; omega
          · have HY := HGN.out s (by rw [← hz]; omega)
            have HYY := Lib.hid HY
            have HZ := Lib.hid hz
            clear HY hz
            go_wp2
            go_roundw
            case rel => exact ⟨s + 1, by omega, by go_num, by rw [HYY.out]; exact HX.out, hbx⟩
            case measure => simp [intOf]; omega
        · obtain rfl : s = n := by omega
          go_wp2
          go_roundw
          case rel => exact ⟨k + 1, by omega, by go_num, by rw [HUP.out, HRL.out]; exact HX.out, hbx⟩
          case measure => simp [intOf]; omega
    · obtain rfl : k = xss.length := by omega
      go_wp2
      go_ret
      exact ⟨_, rfl, HO.out, hb⟩

set_option maxRecDepth 100000 in
set_option maxHeartbeats 4000000 in
theorem partGaps_any (st : Int) (v : Value) (xss : List (List Int)) (n : Nat) (w : World) (h1 : Rows2 w v xss) (hg : GoodP st n xss) :
    Calls Tryz.prog 31 #[.agg #[.int .i64 st, v]] w (NewGaps (gapsOf xss) w) := by
  obtain ⟨ao1, p1, o1, c1, H1⟩ := h1.open
  have hv := H1.val
  subst hv
  have hm := H1.len
  have HG := Lib.hid hg
  have hl3 := hg.len3
  have hn10 := hg.hi
  have bx : Below w.heap.size w (w.alloc (.cells #[.int .i64 st, .slice ao1 xss.length c1] 26)) := below_alloc (Below.refl _ _) _
  have HE0 := own_empty2 (w.alloc (.cells #[.int .i64 st, .slice ao1 xss.length c1] 26)) w.heap.size (by simp) 52
  rw [show (w.alloc (.cells #[.int .i64 st, .slice ao1 xss.length c1] 26)).heap.size = w.heap.size + 1 by simp] at HE0
  have HE := Lib.hid HE0
  clear hg h1 HE0
  go_enter Tryz.func31, Tryz.ntmps31
  go_wp2
  go_loopw [3, 12] (fun u i wr => ∃ k : Nat, k ≤ xss.length ∧ i = .int .i64 k ∧ Hid (wr.ownsRow w.heap.size 52 2 u (gapsTo xss k).length (gapVals (gapsTo xss k))) ∧ Below w.heap.size w wr) (fun _ i _ => xss.length - (intOf i).toNat)
  case atStart => exact ⟨0, Nat.zero_le _, rfl, HE.out, below_trans bx (below_alloc (Below.refl _ _) _)⟩
  case round =>
    obtain ⟨k, hk, rfl, HO, hb⟩ := hrel
    obtain ⟨wo, rfl⟩ : ∃ wo : World, wo = wr := ⟨_, rfl⟩
    by_cases hlt : k < xss.length
    · have i1 := idx_of Tryz.underlying24 size1_ints (c := c1) H1.adr hlt .i64
      obtain ⟨r1, d2, hr1⟩ := H1.cell k hlt
      obtain ⟨ao2, p2, o2, c2, H2⟩ := hr1.open
      have hv2 := H2.val
      subst hv2
      have hm2 := H2.len
      have hrl := HG.out.row hlt
      have A2 := H2.adr
      rw [hrl] at A2 d2 hm2
      have e2 := below_cell hb d2
      have HRL := Lib.hid hrl
      have HO0 := HO.out
      rw [← gapsAt_zero] at HO0
      have HO1 := Lib.hid HO0
      have HUP := Lib.hid (gapsTo_succ xss k)
      have HGL := Lib.hid (fun s (hs : s ≤ n) => gapsAt_len HG.out hlt hs)
      have HGY := Lib.hid (fun s => gapsAt_yes (xss := xss) (k := k) (s := s))
      have HGN := Lib.hid (fun s => gapsAt_no (xss := xss) (k := k) (s := s))
      clear hrl hr1 HO HO0
      go_wp2
      go_loopw [3, 19] (fun u i wr => ∃ s : Nat, s ≤ n ∧ i = .int .i64 s ∧ Hid (wr.ownsRow w.heap.size 52 2 u (gapsAt xss k s).length (gapVals (gapsAt xss k s))) ∧ Below w.heap.size w wr) (fun _ i _ => n - (intOf i).toNat)
      case atStart => exact ⟨0, Nat.zero_le _, rfl, HO1.out, hb⟩
      case round =>
        obtain ⟨s, hs, rfl, HX, hbx⟩ := hrel
        have hlen := HGL.out s hs
        by_cases hlt2 : s < n
        · have i2 := idx_of Tryz.underlying45 size1_int (c := c2) A2 hlt2 .i64
          have d3 := H2.cell s (by rw [HRL.out]; exact hlt2)
          have f3 := below_cell hbx d3
          obtain ⟨z, hz⟩ : ∃ z, z = (xss.getD k []).getD s 0 := ⟨_, rfl⟩
          rw [← hz] at f3
          clear d3
          by_cases hzn : z < 0
          · have HY := HGY.out s (by rw [← hz]; omega)
            have HYY := Lib.hid HY
            have HZ := Lib.hid hz
            clear HY hz
            go_wp2_with (at_builtin; refine wpList_pushGap rfl (.tmp 26) (.tmp 30) rfl w.heap.size rfl HX.out _ _ rfl (by omega) hbx.size ?_; intro v' w6 hown' hgr)
            have hb6 : Below w.heap.size w w6 := Below.grown hbx hgr hbx.size (fun g hg => (own_block HX.out hg).1)
            have HOW := Lib.hid hown'
            clear hown' hgr
            go_wp2
            go_roundw
            case rel => exact ⟨s + 1, by omega, by go_num, by
              have h := HOW.out
              rw [gapVals_snoc] at h
              rw [HYY.out, List.length_append]
              exact h, hb6⟩
            case measure => simp [intOf]; omega
          · have HY := HGN.out s (by rw [← hz]; omega)
            have HYY := Lib.hid HY
            have HZ := Lib.hid hz
            clear HY hz
            go_wp2
            go_roundw
            case rel => exact ⟨s + 1, by omega, by go_num, by rw [HYY.out]; exact HX.out, hbx⟩
            case measure => simp [intOf]; omega
        · obtain rfl : s = n := by omega
          go_wp2
          go_roundw
          case rel => exact ⟨k + 1, by omega, by go_num, by rw [HUP.out, HRL.out]; exact HX.out, hbx⟩
          case measure => simp [intOf]; omega
    · obtain rfl : k = xss.length := by omega
      go_wp2
      go_ret
      exact ⟨_, rfl, HO.out, hb⟩

end Go.Proofs.YtfdacodbiodiaaaGreatDoor
