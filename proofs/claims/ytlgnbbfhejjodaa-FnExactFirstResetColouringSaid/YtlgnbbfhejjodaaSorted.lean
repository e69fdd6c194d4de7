/- slices.Contains, Index, Sort and Compact at numbers: the shelf's contracts at slices that are read or owned. -/
import Derived.Test.YtlgnbbfhejjodaaShelfG
import Derived.Test.YtlgnbbfhejjodaaBits
import Derived.Test.YtlgnbbfhejjodaaReachLaw
import Derived.Shelf.SlicesG.CompactI
import Derived.Shelf.SlicesG.Turned
import Derived.Shelf.SortM.Plain
import Derived.Lib.OwnBridge
namespace Go.Proofs.Ytlgnbbfhejjodaa
set_option linter.unusedVariables false
set_option linter.unusedSimpArgs false
open Go.ChangeShapes Go.WideShapes Go.ChangeAt Go.RowKit Go.Shelf Go.Sort

theorem contains_any (v : Value) (zs : List Int) (z : Int) (w : World) (h : Ints w v zs) :
    Calls Try.prog 133 #[v, .int .i64 z] w fun e w' => e = .returned (.bool (zs.contains z)) ∧ w' = w := by
  obtain ⟨ao, b, o, c, H⟩ := h.open
  have hv := H.val
  subst hv
  have hm := H.len
  by_cases h0 : zs.length = 0
  · obtain rfl : zs = [] := List.eq_nil_of_length_eq_zero h0
    exact AnyG.slices_Contains_int_empty Try.lcontains ao c z w
  · obtain rfl := H.adr (by omega)
    have := AnyG.slices_Contains_int Try.lcontains b o zs.length c zs z w (Nat.le_refl _) hm H.cell
    rw [List.take_length] at this
    exact this

theorem keeps_nodup {zs : List Int} (h : zs.Nodup) : Lib.compact zs = zs := by
  refine Lib.compact_all zs fun j hj => ?_
  rcases Nat.eq_zero_or_pos j with rfl | hp
  · simp [Lib.keeps]
  · refine Lib.keeps_pos ?_
    simp only [List.getElem!_toArray]
    rw [getElem!_pos zs j hj, getElem!_pos zs (j - 1) (by omega)]
    intro e
    exact (List.pairwise_iff_getElem.1 h) (j - 1) j (by omega) hj (by omega) e.symm
def sortZ (zs : List Int) : List Int := zs.mergeSort fun x y => decide (x ≤ y)
theorem sortZ_len (zs : List Int) : (sortZ zs).length = zs.length := List.length_mergeSort ..
theorem sortZ_perm (zs : List Int) : (sortZ zs).Perm zs := List.mergeSort_perm ..
theorem sortZ_nodup {zs : List Int} (h : zs.Nodup) : (sortZ zs).Nodup := (sortZ_perm zs).nodup_iff.2 h
theorem sortZ_putAll {zs : List Int} (h : zs.Nodup) : sortZ zs = putAll zs := by
  refine sorted_ext ?_ (putAll_sorted zs) fun x => by rw [mem_putAll]; exact (sortZ_perm zs).mem_iff
  have h1 := List.pairwise_mergeSort (le := fun (x y : Int) => decide (x ≤ y)) (fun a b c h1 h2 => by simp at *; omega) (fun a b => by simp; omega) zs
  refine List.Pairwise.imp_of_mem ?_ (h1.and (sortZ_nodup h))
  rintro a b _ _ ⟨h1, h2⟩
  have := of_decide_eq_true h1
  omega

theorem own_grow {w : World} {lo : Nat} {e : TypeId} {s : Nat} {v : Value} {n : Nat} {xs : List Value} (h : w.ownsRow lo e s v n xs) (os : Array Obj) : (grow w os).ownsRow lo e s v n xs :=
  own_below h ⟨rfl, rfl, rfl, by simp, fun k hk => heap_grow_old w os hk⟩

theorem below_grow {B : Nat} {a W : World} (h : Below B a W) (hB : B ≤ a.heap.size) (os : Array Obj) : Below B a (grow W os) :=
  ⟨h.os, h.tape, h.output, by have := h.size; simp; omega, fun k hk => (heap_grow_old W os (by have := h.size; omega)).trans (h.block k hk)⟩

theorem sortInts_any (v : Value) (zs : List Int) (lo : Nat) (w : World) (ho : w.ownsRow lo 2 1 v zs.length (zs.map (Value.int .i64))) (hl : zs.length ≤ 1048576) (h0 : 0 < zs.length) :
    Calls Try.prog 153 #[v] w fun e w' => e = .returned (.tuple #[]) ∧ w'.ownsRow lo 2 1 v (sortZ zs).length ((sortZ zs).map (Value.int .i64)) ∧ Below lo w w' := by
  obtain ⟨g0, c0, rfl, hc0⟩ := own_some ho h0
  obtain ⟨g, cap, e, hg1, hg2, hn, hm, _, hH⟩ := Lib.holds_of_ownsRow ho (by intro h; cases h)
  injection e with e1 _ e3
  injection e1 with e1
  injection e1 with e1
  subst e1; subst e3
  refine (AnyM.slices_Sort_int Try.lsort g0 0 c0 zs w hH hg2 (by omega)).mono ?_
  rintro e w' ⟨rfl, n, os, rfl⟩
  refine ⟨rfl, ?_, ?_⟩
  · have h := Lib.ownsRow_putRow (q := n) (ys := sortZ zs) (k := zs.length) ho (sortZ_len zs) (Nat.le_refl _)
    rw [List.take_of_length_le (by rw [sortZ_len]; exact Nat.le_refl _)] at h
    rw [sortZ_len]
    exact own_grow h os
  · have h := Lib.below_putRow (q := n) (enc := Value.int .i64) (d := (sortZ zs).toArray) (Below.refl lo w) hg1
    exact below_grow h (by omega) os

theorem compactInts_any (v : Value) (zs : List Int) (lo : Nat) (w : World) (ho : w.ownsRow lo 2 1 v zs.length (zs.map (Value.int .i64))) (hl : zs.length ≤ 1048576) (h0 : 0 < zs.length) (hd : zs.Nodup) :
    Calls Try.prog 154 #[v] w fun e w' => ∃ v', e = .returned v' ∧ w'.ownsRow lo 2 1 v' zs.length (zs.map (Value.int .i64)) ∧ Below lo w w' := by
  obtain ⟨g0, c0, rfl, hc0⟩ := own_some ho h0
  obtain ⟨g, cap, e, hg1, hg2, hn, hm, _, hH⟩ := Lib.holds_of_ownsRow ho (by intro h; cases h)
  injection e with e1 _ e3
  injection e1 with e1
  injection e1 with e1
  subst e1; subst e3
  refine (AnyG.slices_Compact_int Try.lcompact g0 0 c0 zs w hH (by omega) hc0).mono ?_
  rw [keeps_nodup hd]
  rintro e w' ⟨rfl, n, rfl⟩
  refine ⟨_, rfl, ?_, Lib.below_putRow (q := n) (Below.refl lo w) hg1⟩
  have h := Lib.ownsRow_putRow (q := n) (ys := zs) (k := zs.length) ho rfl (Nat.le_refl _)
  rw [List.take_length] at h
  simpa using h

set_option maxHeartbeats 1000000 in
theorem sorted_any (v : Value) (zs : List Int) (w : World) (h1 : Ints w v zs) (hl : zs.length ≤ 1048576) (h0 : 0 < zs.length) (hd : zs.Nodup) :
    Calls Try.prog 149 #[v] w (NewInts (putAll zs) w) := by
  have HC := Lib.hid (cloneInts_any v zs w h1 hl)
  have HL := Lib.hid hl
  have H0 := Lib.hid h0
  have HD := Lib.hid hd
  have HP := Lib.hid (sortZ_putAll hd)
  clear h1 hl h0 hd
  go_enter Try.func149, Try.ntmps149
  go_wp2_with fail
  refine HC.out.mono ?_
  rintro e w1 ⟨v1, rfl, ho1, hb1⟩
  have HS := Lib.hid (sortInts_any v1 zs w.heap.size w1 ho1 HL.out H0.out)
  obtain ⟨a1, m1, c1, rfl, HM1⟩ := own_shape ho1
  clear ho1 HC
  go_wp2_with fail
  refine HS.out.mono ?_
  rintro e w2 ⟨rfl, ho2, hb2⟩
  have HK := Lib.hid (compactInts_any _ (sortZ zs) w.heap.size w2 ho2 (by rw [sortZ_len]; exact HL.out) (by rw [sortZ_len]; exact H0.out) (sortZ_nodup HD.out))
  have hb := hb1.trans hb2
  clear ho2 HS
  go_wp2_with fail
  refine HK.out.mono ?_
  rintro e w3 ⟨v3, rfl, ho3, hb3⟩
  have hbb := hb.trans hb3
  rw [HP.out] at ho3
  have HO := Lib.hid ho3
  obtain ⟨a3, m3, c3, rfl, HM3⟩ := own_shape ho3
  clear ho3 HK
  go_wp2
  go_ret
  exact ⟨_, rfl, HO.out, hbb⟩

end Go.Proofs.Ytlgnbbfhejjodaa
