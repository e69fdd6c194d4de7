/- l02From of the reference: the lists of the sets, of the places before them, of the letters. -/
import Derived.Test.YtocdkeidjocmkaaBits
import Derived.Test.YtocdkeidjocmkaaSpecOk
import Derived.Test.YtocdkeidjocmkaaStep
import Derived.Deep.Cut
namespace Go.Proofs.Ytocdkeidjocmkaa
set_option linter.unusedVariables false
set_option linter.unusedSimpArgs false
open Go.ChangeShapes Go.WideShapes Go.ChangeAt Go.RowKit

theorem elem_i : Elem Try.prog 116 3 (.int .i64 0) 8 := ⟨Try.underlying116, by kernel_rfl, rfl⟩
theorem size1_i : ∀ w, (sizeOf 3).run Try.prog w = .ok 1 w := fun _ => by kernel_rfl
theorem size1_b : ∀ w, (sizeOf 4).run Try.prog w = .ok 1 w := fun _ => by kernel_rfl
theorem info_b : (Try.prog.info? 4).map (fun i => (i.zero, i.size, i.bytes)) = some (some (.bool false), 1, 1) := by kernel_rfl

/-- places and letters tell the words -/
structure BackOk (T : Tour) (bs ls : List Int) : Prop where
  blen : bs.length = T.length
  llen : ls.length = T.length
  pos : 0 < T.length
  root : bs.getD 0 0 = -1 ∧ (T.at 0).2 = []
  step : ∀ k, 0 < k → k < T.length → ∃ j : Nat, j < k ∧ bs.getD k 0 = (j : Int) ∧ (T.at k).2 = (T.at j).2 ++ [ls.getD k 0]
theorem BackOk.start (f : Nat) : BackOk [(f, [])] [-1] [0] := ⟨rfl, rfl, by simp, ⟨rfl, rfl⟩, fun k h1 h2 => by simp at h2; omega⟩
theorem BackOk.push {T : Tour} {bs ls : List Int} (h : BackOk T bs ls) {i : Nat} (hi : i < T.length) (s : Nat) (x : Int) : BackOk (T ++ [(s, (T.at i).2 ++ [x])]) (bs ++ [(i : Int)]) (ls ++ [x]) := by
  have at_old : ∀ k, k < T.length → Tour.at (T ++ [(s, (T.at i).2 ++ [x])]) k = T.at k := fun k hk => by simp [Tour.at, List.getD_eq_getElem?_getD, List.getElem?_append_left hk]
  have at_new : Tour.at (T ++ [(s, (T.at i).2 ++ [x])]) T.length = (s, (T.at i).2 ++ [x]) := by simp [Tour.at, List.getD_eq_getElem?_getD]
  have hb : ∀ k, k < T.length → (bs ++ [(i : Int)]).getD k 0 = bs.getD k 0 := fun k hk => by simp [List.getD_eq_getElem?_getD, List.getElem?_append_left (show k < bs.length by rw [h.blen]; exact hk)]
  have hl : ∀ k, k < T.length → (ls ++ [x]).getD k 0 = ls.getD k 0 := fun k hk => by simp [List.getD_eq_getElem?_getD, List.getElem?_append_left (show k < ls.length by rw [h.llen]; exact hk)]
  have hb2 : (bs ++ [(i : Int)]).getD T.length 0 = i := by rw [← h.blen]; simp [List.getD_eq_getElem?_getD]
  have hl2 : (ls ++ [x]).getD T.length 0 = x := by rw [← h.llen]; simp [List.getD_eq_getElem?_getD]
  refine ⟨by simp [h.blen], by simp [h.llen], by simp, ?_, ?_⟩
  · rw [hb 0 h.pos, at_old 0 h.pos]; exact h.root
  · intro k h1 h2
    rw [List.length_append, List.length_singleton] at h2
    by_cases hk : k < T.length
    · obtain ⟨j, h3, h4, h5⟩ := h.step k h1 hk
      exact ⟨j, h3, by rw [hb k hk]; exact h4, by rw [at_old k hk, at_old j (by omega), hl k hk]; exact h5⟩
    · have e : k = T.length := by omega
      subst e
      exact ⟨i, hi, hb2, by rw [at_new, at_old i hi, hl2]⟩

/-- sets as ints -/
def itVals (ss : List Nat) : List Value := ss.map fun (s : Nat) => Value.int .i64 (s : Int)
theorem itVals_len (ss : List Nat) : (itVals ss).length = ss.length := by simp [itVals]
theorem itVals_snoc (ss : List Nat) (s : Nat) : itVals ss ++ [.int .i64 (s : Int)] = itVals (ss ++ [s]) := by simp [itVals]
theorem itVals_get {ss : List Nat} {i : Nat} (h : i < ss.length) : (itVals ss)[i]? = some (.int .i64 (ss.getD i 0 : Int)) := by simp [itVals, List.getD_eq_getElem?_getD, h]
/-- which sets are there -/
def seenVals (m : Nat) (ss : List Nat) : List Value := (List.range m).map fun j => Value.bool (decide (j ∈ ss))
theorem seenVals_len (m : Nat) (ss : List Nat) : (seenVals m ss).length = m := by simp [seenVals]
theorem seenVals_get {m j : Nat} (ss : List Nat) (h : j < m) : (seenVals m ss)[j]? = some (.bool (decide (j ∈ ss))) := by simp [seenVals, h]
theorem seenVals_set {m s : Nat} (ss : List Nat) (h : s < m) : (seenVals m ss).set s (.bool true) = seenVals m (ss ++ [s]) := by
  refine List.ext_getElem (by simp [seenVals]) fun j h1 h2 => ?_
  have hj : j < m := by simpa [seenVals] using h2
  rw [List.getElem_set]
  simp only [seenVals, List.getElem_map, List.getElem_range, List.mem_append, List.mem_singleton]
  by_cases e : s = j
  · subst e; simp
  · rw [if_neg e]
    have : ¬ j = s := fun h => e h.symm
    simp [this]
theorem Tour.sets_len' (T : Tour) : T.sets.length = T.length := by simp [Tour.sets]
theorem Tour.sets_at' {T : Tour} {i : Nat} (h : i < T.length) : T.sets.getD i 0 = (T.at i).1 := by simp [Tour.sets, Tour.at, List.getD_eq_getElem?_getD, h]

/-- a walk of the reference at block tb -/
structure WalkAt (w : World) (lo tb : Nat) (s b l : Value) (T : Tour) (bs ls : List Int) : Prop where
  st : w.ownsRow lo 118 1 (.slice (some ⟨tb, 0, none⟩) 3 3) 3 [s, b, l]
  hs : w.ownsRow lo 3 1 s T.length (itVals T.sets)
  hb : w.ownsRow lo 3 1 b bs.length (bs.map (Value.int .i64))
  hl : w.ownsRow lo 2 1 l ls.length (ls.map (Value.int .i64))
  ap : s.ownBlock = none ∨ s.ownBlock ≠ b.ownBlock
  back : BackOk T bs ls
theorem WalkAt.below {w w' : World} {lo tb : Nat} {s b l : Value} {T : Tour} {bs ls : List Int} (h : WalkAt w lo tb s b l T bs ls) (hb : Below w.heap.size w w') : WalkAt w' lo tb s b l T bs ls :=
  ⟨own_below h.st hb, own_below h.hs hb, own_below h.hb hb, own_below h.hl hb, h.ap, h.back⟩
/-- a walk that the call made -/
def NewWalk (T : Tour) (w : World) (e : Ending) (w' : World) : Prop :=
  ∃ tb s b l bs ls, e = .returned (.pointer (some ⟨tb, 0, none⟩)) ∧ WalkAt w' w.heap.size tb s b l T bs ls ∧ Below w.heap.size w w'

/-- a block of another type turned -/
theorem WalkAt.grown {w w' : World} {lo tb : Nat} {s b l : Value} {T : Tour} {bs ls : List Int} (h : WalkAt w lo tb s b l T bs ls) {lo2 g m : Nat} {xs : List Value} (ho : w.ownsRow lo2 4 1 (.slice (some ⟨g, 0, none⟩) m m) m xs) (hg : w.grownBy w' (some g)) : WalkAt w' lo tb s b l T bs ls :=
  ⟨h.st.kept hg (own_ne (v2 := .slice (some ⟨g, 0, none⟩) m m) h.st ho (by decide)), h.hs.kept hg (own_ne (v2 := .slice (some ⟨g, 0, none⟩) m m) h.hs ho (by decide)), h.hb.kept hg (own_ne (v2 := .slice (some ⟨g, 0, none⟩) m m) h.hb ho (by decide)), h.hl.kept hg (own_ne (v2 := .slice (some ⟨g, 0, none⟩) m m) h.hl ho (by decide)), h.ap, h.back⟩
theorem _root_.Go.RowKit.Below.of_grown_none {w w' : World} (h : w.grownBy w' none) : Below w.heap.size w w' := ⟨h.os, h.tape, h.output, h.size, fun k hk => h.block k hk (by simp)⟩

structure SInv (W w : World) (lo tb sb m : Nat) (T : Tour) : Prop where
  walk : ∃ s b l bs ls, WalkAt w lo tb s b l T bs ls
  seen : w.ownsRow lo 4 1 (.slice (some ⟨sb, 0, none⟩) m m) m (seenVals m T.sets)
  below : Below lo W w
  low : lo ≤ w.heap.size
theorem SInv.next {W w w' : World} {lo tb sb m : Nat} {T : Tour} (h : SInv W w lo tb sb m T) (hb : Below w.heap.size w w') : SInv W w' lo tb sb m T :=
  ⟨by obtain ⟨s, b, l, bs, ls, hw⟩ := h.walk; exact ⟨s, b, l, bs, ls, hw.below hb⟩, own_below h.seen hb, h.below.trans (hb.mono h.low), Nat.le_trans h.low hb.size⟩

/-- the walk in the making: its three lists, and what has been seen -/
structure SRaw (W w : World) (lo tb sb m : Nat) (s b l : Value) (S B L N : List Value) : Prop where
  st : w.ownsRow lo 118 1 (.slice (some ⟨tb, 0, none⟩) 3 3) 3 [s, b, l]
  hs : w.ownsRow lo 3 1 s S.length S
  hb : w.ownsRow lo 3 1 b B.length B
  hl : w.ownsRow lo 2 1 l L.length L
  ap : s.ownBlock = none ∨ s.ownBlock ≠ b.ownBlock
  sn : w.ownsRow lo 4 1 (.slice (some ⟨sb, 0, none⟩) m m) m N
  below : Below lo W w
  low : lo ≤ w.heap.size
section
variable {W w w5 : World} {lo tb sb m : Nat} {s b l v u : Value} {S B L N : List Value}
theorem SRaw.pushS (h : SRaw W w lo tb sb m s b l S B L N) (hg : w.grownBy w5 s.ownBlock) (ho : w5.ownsRow lo 3 1 v (S.length + 1) (S ++ [u])) (hn : SameOrNew s v w.heap.size) : SRaw W (w5.setCell ⟨tb, 0, none⟩ v) lo tb sb m v b l (S ++ [u]) B L N := by
  have st5 := own_grown h.st h.hs hg rfl (by decide)
  obtain ⟨g1, g2⟩ := st5.stored 0 v
  obtain ⟨hb5, ap5⟩ := push_other hg hn h.hb (apart_symm h.ap)
  have hl5 := own_grown h.hl h.hs hg rfl (by decide)
  have sn5 := own_grown h.sn h.hs hg rfl (by decide)
  refine ⟨by simpa using g1, by rw [List.length_append]; exact own_grown ho st5 g2 rfl (by decide), own_grown hb5 st5 g2 rfl (by decide), own_grown hl5 st5 g2 rfl (by decide), apart_symm ap5, own_grown sn5 st5 g2 rfl (by decide), ?_, Nat.le_trans h.low (Nat.le_trans hg.size g2.size)⟩
  exact (h.below.grown hg h.low fun g hg => (own_block h.hs hg).1).grown g2 (Nat.le_trans h.low hg.size) fun g hg => (own_block st5 hg).1
theorem SRaw.pushB (h : SRaw W w lo tb sb m s b l S B L N) (hg : w.grownBy w5 b.ownBlock) (ho : w5.ownsRow lo 3 1 v (B.length + 1) (B ++ [u])) (hn : SameOrNew b v w.heap.size) : SRaw W (w5.setCell ⟨tb, 1, none⟩ v) lo tb sb m s v l S (B ++ [u]) L N := by
  have st5 := own_grown h.st h.hb hg rfl (by decide)
  obtain ⟨g1, g2⟩ := st5.stored 1 v
  obtain ⟨hs5, ap5⟩ := push_other hg hn h.hs h.ap
  have hl5 := own_grown h.hl h.hb hg rfl (by decide)
  have sn5 := own_grown h.sn h.hb hg rfl (by decide)
  refine ⟨by simpa using g1, own_grown hs5 st5 g2 rfl (by decide), by rw [List.length_append]; exact own_grown ho st5 g2 rfl (by decide), own_grown hl5 st5 g2 rfl (by decide), ap5, own_grown sn5 st5 g2 rfl (by decide), ?_, Nat.le_trans h.low (Nat.le_trans hg.size g2.size)⟩
  exact (h.below.grown hg h.low fun g hg => (own_block h.hb hg).1).grown g2 (Nat.le_trans h.low hg.size) fun g hg => (own_block st5 hg).1
theorem SRaw.pushL (h : SRaw W w lo tb sb m s b l S B L N) (hg : w.grownBy w5 l.ownBlock) (ho : w5.ownsRow lo 2 1 v (L.length + 1) (L ++ [u])) : SRaw W (w5.setCell ⟨tb, 2, none⟩ v) lo tb sb m s b v S B (L ++ [u]) N := by
  have st5 := own_grown h.st h.hl hg rfl (by decide)
  obtain ⟨g1, g2⟩ := st5.stored 2 v
  have hs5 := own_grown h.hs h.hl hg rfl (by decide)
  have hb5 := own_grown h.hb h.hl hg rfl (by decide)
  have sn5 := own_grown h.sn h.hl hg rfl (by decide)
  refine ⟨by simpa using g1, own_grown hs5 st5 g2 rfl (by decide), own_grown hb5 st5 g2 rfl (by decide), by rw [List.length_append]; exact own_grown ho st5 g2 rfl (by decide), h.ap, own_grown sn5 st5 g2 rfl (by decide), ?_, Nat.le_trans h.low (Nat.le_trans hg.size g2.size)⟩
  exact (h.below.grown hg h.low fun g hg => (own_block h.hl hg).1).grown g2 (Nat.le_trans h.low hg.size) fun g hg => (own_block st5 hg).1
theorem SRaw.cells (h : SRaw W w lo tb sb m s b l S B L N) : w.cell? ⟨tb, 0, none⟩ = some s ∧ w.cell? ⟨tb, 1, none⟩ = some b ∧ w.cell? ⟨tb, 2, none⟩ = some l ∧ w.frozen? ⟨tb, 0, none⟩ = false ∧ w.frozen? ⟨tb, 1, none⟩ = false ∧ w.frozen? ⟨tb, 2, none⟩ = false :=
  ⟨by have := h.st.cellAt 0 (by omega); simpa using this, by have := h.st.cellAt 1 (by omega); simpa using this, by have := h.st.cellAt 2 (by omega); simpa using this, h.st.frozenAt 0, h.st.frozenAt 1, h.st.frozenAt 2⟩
end

theorem map_snoc_int (zs : List Int) (z : Int) : (zs ++ [z]).map (Value.int .i64) = zs.map (Value.int .i64) ++ [.int .i64 z] := by simp
theorem made_false (m : Nat) : (madeCells (Value.cells (.bool false)) (m * 1)).toList = seenVals m [] := by
  show (madeCells #[Value.bool false] (m * 1)).toList = _
  rw [toList_madeCells_one]
  unfold seenVals
  refine List.ext_getElem (by simp) fun j h1 h2 => ?_
  simp
theorem seen_false {w : World} {lo g m f : Nat} (h : w.ownsRow lo 4 1 (.slice (some ⟨g, 0, none⟩) m m) m (madeCells (Value.cells (.bool false)) (m * 1)).toList) (hf : f < m) : w.cell? ⟨g, f, none⟩ = some (.bool false) := by
  rw [made_false] at h
  rw [h.cellAt f (by omega), seenVals_get _ hf]
  simp

set_option maxRecDepth 100000 in
set_option maxHeartbeats 4000000 in
theorem l02From_any (b : Nat) (st : Int) (v : Value) (xss : List (List Int)) (n f : Nat) (w : World) (d0 : w.cell? ⟨b, 0, none⟩ = some (.int .i64 st)) (d1 : w.cell? ⟨b, 1, none⟩ = some v) (h1 : Rows2 w v xss) (hg : Good st n xss) (hf : f < 2 ^ n) :
    Calls Try.prog 90 #[.pointer (some ⟨b, 0, none⟩), .int .i64 f] w (NewWalk (tourOf xss f) w) := by
  obtain ⟨ao, ab, o, c, H⟩ := h1.open
  have hv := H.val
  subst hv
  obtain rfl := hg.st
  have hm := H.len
  have hn10 := hg.hi
  have hl1 := hg.len1
  have hl3 := hg.len3
  have hf2 : f < 1024 := Nat.lt_of_lt_of_le hf (Nat.pow_le_pow_right (by decide) hn10)
  have HG := Lib.hid hg
  have HGT := Lib.hid (fun i => GoodT.outer hg.rows hl3 hf i)
  have HF := Lib.hid hf
  have hp : 2 ^ n ≤ 1024 := Nat.pow_le_pow_right (by decide) hn10
  have hw2 : wrap64 ((2 : Int) ^ n) = ((2 ^ n : Nat) : Int) := by rw [wrap64_i64, wrap_pow_i64 (by omega)]
  obtain ⟨i0, hi, hz0, hz1, hz2⟩ := info_parts info_b
  obtain ⟨m, hm2⟩ : ∃ m : Nat, m = 2 ^ n := ⟨_, rfl⟩
  rw [← hm2] at hp hw2
  have HM := Lib.hid hm2
  have hbw := block_lt_of_cell d0
  replace hbw : b < w.heap.size := hbw
  have hbw1 : b < w.heap.size + 1 := by omega
  have hbw2 : b < w.heap.size + 1 + 1 := by omega
  have hbw3 : b < w.heap.size + 1 + 1 + 1 := by omega
  have hfm : f < m := by rw [hm2]; exact hf
  have i1 := idx_of Try.underlying138 size1_b (ao := some ⟨w.heap.size + 1 + 1 + 1 + 1, 0, none⟩) (b := w.heap.size + 1 + 1 + 1 + 1) (o := 0) (n := m) (c := m) (fun _ => rfl) hfm .i64
  rw [Nat.zero_add] at i1
  clear hf hg hm2
  go_enter Try.func90, Try.ntmps90
  go_wp2_with (at_make; refine wpList_make_full _ rfl _ _ 138 rfl w.heap.size 4 i0 (.bool false) 1 Try.underlying138 hi hz0 hz1 .i64 .i64 _ _ m rfl rfl hw2 hw2 (by rw [hz2]; omega) (by unfold maxLen; omega) (by simp; omega) ?_; intro w1 hown hgr; have hfc : w1.cell? ⟨w.heap.size + 1 + 1 + 1 + 1, f, none⟩ = some (.bool false) := (by simpa using seen_false hown hfm); have hff : w1.frozen? ⟨w.heap.size + 1 + 1 + 1 + 1, f, none⟩ = false := (by simpa using hown.frozenAt f))
  obtain ⟨W4, hW4⟩ : ∃ W4, W4 = (((w.alloc (.cells #[.int .i64 (f : Int)] 3)).alloc (.cells #[.int .i64 (-1)] 3)).alloc (.cells #[.int .i64 0] 2)).alloc (.cells #[.slice (some ⟨w.heap.size, 0, none⟩) 1 1, .slice (some ⟨w.heap.size + 1, 0, none⟩) 1 1, .slice (some ⟨w.heap.size + 1 + 1, 0, none⟩) 1 1] 118) := ⟨_, rfl⟩
  have hb4 : Below w.heap.size w W4 := by rw [hW4]; exact below_alloc (below_alloc (below_alloc (below_alloc (Below.refl _ _) _) _) _) _
  have e4 : W4.heap.size = w.heap.size + 1 + 1 + 1 + 1 := by rw [hW4]; simp
  have ws : W4.ownsRow w.heap.size 3 1 (.slice (some ⟨w.heap.size, 0, none⟩) 1 1) 1 [.int .i64 (f : Int)] := by
    rw [hW4]
    exact (((World.ownsRow_lit (base := w.heap.size) (size := 1) (e := 3) w #[.int .i64 (f : Int)] 1 (Nat.le_refl _) (by unfold maxLen; omega) (by simp)).alloc _).alloc _).alloc _
  have wb : W4.ownsRow w.heap.size 3 1 (.slice (some ⟨w.heap.size + 1, 0, none⟩) 1 1) 1 [.int .i64 (-1)] := by
    rw [hW4]
    have := ((World.ownsRow_lit (base := w.heap.size) (size := 1) (e := 3) (w.alloc (.cells #[.int .i64 (f : Int)] 3)) #[.int .i64 (-1)] 1 (by simp) (by unfold maxLen; omega) (by simp)).alloc (.cells #[.int .i64 0] 2)).alloc (.cells #[.slice (some ⟨w.heap.size, 0, none⟩) 1 1, .slice (some ⟨w.heap.size + 1, 0, none⟩) 1 1, .slice (some ⟨w.heap.size + 1 + 1, 0, none⟩) 1 1] 118)
    simpa using this
  have wl : W4.ownsRow w.heap.size 2 1 (.slice (some ⟨w.heap.size + 1 + 1, 0, none⟩) 1 1) 1 [.int .i64 0] := by
    rw [hW4]
    have := (World.ownsRow_lit (base := w.heap.size) (size := 1) (e := 2) ((w.alloc (.cells #[.int .i64 (f : Int)] 3)).alloc (.cells #[.int .i64 (-1)] 3)) #[.int .i64 0] 1 (by simp; try omega) (by unfold maxLen; omega) (by simp)).alloc (.cells #[.slice (some ⟨w.heap.size, 0, none⟩) 1 1, .slice (some ⟨w.heap.size + 1, 0, none⟩) 1 1, .slice (some ⟨w.heap.size + 1 + 1, 0, none⟩) 1 1] 118)
    simpa using this
  have wt : W4.ownsRow w.heap.size 118 1 (.slice (some ⟨w.heap.size + 1 + 1 + 1, 0, none⟩) 3 3) 3 [.slice (some ⟨w.heap.size, 0, none⟩) 1 1, .slice (some ⟨w.heap.size + 1, 0, none⟩) 1 1, .slice (some ⟨w.heap.size + 1 + 1, 0, none⟩) 1 1] := by
    rw [hW4]
    have := World.ownsRow_lit (base := w.heap.size) (size := 1) (e := 118) (((w.alloc (.cells #[.int .i64 (f : Int)] 3)).alloc (.cells #[.int .i64 (-1)] 3)).alloc (.cells #[.int .i64 0] 2)) #[.slice (some ⟨w.heap.size, 0, none⟩) 1 1, .slice (some ⟨w.heap.size + 1, 0, none⟩) 1 1, .slice (some ⟨w.heap.size + 1 + 1, 0, none⟩) 1 1] 3 (by simp; try omega) (by unfold maxLen; omega) (by simp)
    simpa using this
  have hWA : WalkAt W4 w.heap.size (w.heap.size + 1 + 1 + 1) _ _ _ [(f, [])] [-1] [0] := ⟨wt, ws, wb, wl, .inr (by simp [Value.ownBlock]), BackOk.start f⟩
  rw [← hW4] at hown hgr
  rw [e4] at hown
  rw [made_false] at hown
  have hb1 := Below.of_grown_none hgr
  obtain ⟨hs1, hs2⟩ := hown.stored f (.bool true)
  rw [seenVals_set [] hfm, List.nil_append] at hs1
  have hinv : SInv w (w1.setCell ⟨w.heap.size + 1 + 1 + 1 + 1, f, none⟩ (.bool true)) w.heap.size (w.heap.size + 1 + 1 + 1) (w.heap.size + 1 + 1 + 1 + 1) m [(f, [])] :=
    ⟨⟨_, _, _, _, _, (hWA.below hb1).grown hown hs2⟩, hs1, (hb4.trans (hb1.mono hb4.size)).grown hs2 (by have := hb1.size; omega) (fun g hg => by cases hg; omega), by have := hb1.size; have := hs2.size; omega⟩
  have HINV := Lib.hid hinv
  clear hinv hs1 hs2 hb1 hown hgr hWA wt wl wb ws e4 hb4 hfc hff i1 hz0 hz1 hz2 hi
  clear hW4 hw2
  obtain ⟨tb, htb⟩ : ∃ tb, tb = w.heap.size + 1 + 1 + 1 := ⟨_, rfl⟩
  obtain ⟨sb, hsb⟩ : ∃ sb, sb = tb + 1 := ⟨_, rfl⟩
  rw [← htb, ← hsb] at HINV
  rw [← htb, ← hsb]
  clear htb hsb hbw1 hbw2 hbw3
  go_loopw [7] (fun i wr => ∃ k : Nat, k ≤ (outerT xss f k).length ∧ i = .int .i64 k ∧ Hid (SInv w wr w.heap.size tb sb m (outerT xss f k))) (fun i _ => 1024 - (intOf i).toNat)
  case atStart => exact ⟨0, Nat.zero_le _, rfl, HINV.out⟩
  case round =>
    obtain ⟨k, hk, rfl, HI⟩ := hrel
    have hgt := HGT.out k
    have hlen := hgt.len10 hn10
    obtain ⟨T, hT⟩ : ∃ T, T = outerT xss f k := ⟨_, rfl⟩
    rw [← hT] at hk HI hgt hlen
    obtain ⟨⟨s, bv, l, bs, ls, hwk⟩, hsn, hbw, hlo⟩ := HI.out
    obtain ⟨lg, lc, rfl, hlc⟩ := own_some hwk.hs (by rw [hT]; exact outerT_pos _ _ _)
    have t0 : wr.cell? ⟨tb, 0, none⟩ = some (.slice (some ⟨lg, 0, none⟩) T.length lc) := by have := hwk.st.cellAt 0 (by omega); simpa using this
    by_cases hlt : k < T.length
    · have HT := Lib.hid hT
      have HGTT := Lib.hid hgt
      clear hT hgt hwk hsn hbw hlo
      go_wp2
      go_loopw [8] (fun i wr => ∃ x : Nat, x ≤ xss.length ∧ i = .int .i64 x ∧ Hid (SInv w wr w.heap.size tb sb m (innerT xss k T x))) (fun i _ => xss.length - (intOf i).toNat)
      case atStart => exact ⟨0, Nat.zero_le _, rfl, HI.out⟩
      case round =>
        obtain ⟨x, hx, rfl, HX⟩ := hrel
        have hgx := GoodT.inner HG.out.rows hl3 HGTT.out hlt x hx
        have hlx := hgx.len10 hn10
        have hTx := innerT_len xss k T x
        have hatx := innerT_at xss k T x hlt
        obtain ⟨U, hU⟩ : ∃ U, U = innerT xss k T x := ⟨_, rfl⟩
        have HST := Lib.hid (innerT_succ xss k T x)
        rw [← hU] at HX hgx hlx hTx hatx HST
        have hUk : k < U.length := by omega
        have hbw := HX.out.below
        have q0 := Below.cellOf hbw d0 (by omega)
        have q1 := Below.cellOf hbw d1 (by omega)
        have HUU := Lib.hid hU
        clear hU t0
        by_cases hltx : x < xss.length
        · obtain ⟨⟨s, bv, l, bs, ls, hwk⟩, hsn, hbw2, hlo⟩ := HX.out
          obtain ⟨lg2, lc2, rfl, hlc2⟩ := own_some hwk.hs (by omega)
          have t0 : wr.cell? ⟨tb, 0, none⟩ = some (.slice (some ⟨lg2, 0, none⟩) U.length lc2) := by have := hwk.st.cellAt 0 (by omega); simpa using this
          have i2 := idx_of Try.underlying116 size1_i (ao := some ⟨lg2, 0, none⟩) (b := lg2) (o := 0) (n := U.length) (c := lc2) (fun _ => rfl) hUk .i64
          rw [Nat.zero_add] at i2
          have hatk := Tour.sets_at' hUk
          rw [hatx] at hatk
          obtain ⟨fk, hfk⟩ : ∃ fk, fk = (T.at k).1 := ⟨_, rfl⟩
          rw [← hfk] at hatk
          have t2 : wr.cell? ⟨lg2, k, none⟩ = some (.int .i64 (fk : Int)) := by
            rw [hwk.hs.cellAt k (by omega), itVals_get (by rw [Tour.sets_len']; exact hUk), hatk]
          have hfl := HGTT.out.lt _ (Tour.at_mem hlt)
          rw [← hfk] at hfl
          have hfk1 : fk < 1024 := Nat.lt_of_lt_of_le hfl (Nat.pow_le_pow_right (by decide) hn10)
          have i3 := idx_of Try.underlying22 size1_ints (c := c) H.adr hltx .i64
          obtain ⟨r, dr, hr⟩ := H.cell x hltx
          replace dr := Below.cellOf hbw dr (block_lt_of_cell dr)
          obtain ⟨hrl, hrz⟩ := HG.out.rows.row hltx
          have hmt := moved_lt (n := n) hrz fk
          have hstep : stepT xss k U x = if moved (xss.getD x []) fk ∈ U.sets then U else U ++ [(moved (xss.getD x []) fk, (U.at k).2 ++ [(x : Int)])] := by unfold stepT; rw [hatx, ← hfk]
          obtain ⟨ys, hys⟩ : ∃ ys, ys = xss.getD x [] := ⟨_, rfl⟩
          rw [← hys] at hr hrl hrz hmt hstep
          have HMV := Lib.hid (fun nd => l02Moved_any r ys fk (wr.drewN nd) (hr.kept (hbw.trans (((Qu.refl wr).drewN nd).below wr.heap.size |>.mono hlo))) (fun z hz => by have := hrz z hz; omega) (by omega) hfk1)
          obtain ⟨to, hto⟩ : ∃ to, to = moved ys fk := ⟨_, rfl⟩
          rw [← hto] at HMV hmt hstep
          rw [← HM.out] at hmt
          have HSTP := Lib.hid hstep
          obtain ⟨ra, rb, ro, rc, HR⟩ := hr.open
          have hrv := HR.val
          subst hrv
          clear hys hstep hto hfk hatk hwk hsn hr HR hrz hrl
          go_wp2
          go_quiet ((go_at_call 115; exact Calls.quiet_of_same' (HMV.out _)))
          obtain ⟨w3, hw3⟩ : ∃ w3, w3 = wr.drewN nq := ⟨_, rfl⟩
          have hq : Qu wr w3 := ⟨nq, hw3⟩
          rw [← hw3]
          clear hw3
          have hX3 := HX.out.next (hq.below _)
          have i4 := idx_of Try.underlying138 size1_b (ao := some ⟨sb, 0, none⟩) (b := sb) (o := 0) (n := m) (c := m) (fun _ => rfl) hmt .i64
          rw [Nat.zero_add] at i4
          have d5 : w3.cell? ⟨sb, to, none⟩ = some (.bool (decide (to ∈ U.sets))) := by rw [hX3.seen.cellAt to (by omega), seenVals_get _ hmt]
          have f5 := hX3.seen.frozenAt to
          have HX3 := Lib.hid hX3
          clear hX3 q0 q1 t0 t2 dr i2 i3 hq hbw hbw2 hlo
          by_cases hin : to ∈ U.sets
          · rw [decide_eq_true hin] at d5
            have hst2 := HSTP.out
            rw [if_pos hin] at hst2
            rw [hst2] at HST
            clear hin hst2
            go_wp2
            go_roundw
            case rel => exact ⟨x + 1, by omega, by go_num, by rw [HST.out]; exact HX3.out⟩
            case measure => simp [intOf]; omega
          · rw [decide_eq_false hin] at d5
            have hst2 := HSTP.out
            rw [if_neg hin] at hst2
            rw [hst2] at HST
            have HIN := Lib.hid hin
            clear hin hst2
            obtain ⟨⟨s, bv, l, bs, ls, hwk⟩, hsn, hbw, hlo⟩ := HX3.out
            obtain ⟨g1, g2⟩ := hsn.stored to (.bool true)
            rw [seenVals_set _ hmt] at g1
            have hwk4 := hwk.grown hsn g2
            have hbl := hwk4.back.blen
            have hll := hwk4.back.llen
            have hR4 : SRaw w (w3.setCell ⟨sb, to, none⟩ (.bool true)) w.heap.size tb sb m s bv l (itVals U.sets) (bs.map (Value.int .i64)) (ls.map (Value.int .i64)) (seenVals m (U.sets ++ [to])) :=
              ⟨hwk4.st, by rw [itVals_len, Tour.sets_len']; exact hwk4.hs, by rw [List.length_map]; exact hwk4.hb, by rw [List.length_map]; exact hwk4.hl, hwk4.ap, g1, hbw.grown g2 hlo (fun g hg => by cases hg; exact (own_block hsn rfl).1), Nat.le_trans hlo g2.size⟩
            have hls : (itVals U.sets).length = U.length := by rw [itVals_len, Tour.sets_len']
            have hlb : (bs.map (Value.int .i64)).length = U.length := by rw [List.length_map, hbl]
            have hll2 : (ls.map (Value.int .i64)).length = U.length := by rw [List.length_map, hll]
            obtain ⟨w4, hw4⟩ : ∃ w4, w4 = w3.setCell ⟨sb, to, none⟩ (.bool true) := ⟨_, rfl⟩
            have HBK := Lib.hid (hwk4.back.push hUk to (x : Int))
            clear hsn hwk hbw g1 g2 hwk4 hlo
            go_upto_region 13 with fail
            rw [← hw4] at hR4
            rw [← hw4]
            clear hw4 d5 f5
            obtain ⟨as1, ns, cs, rfl, HMs⟩ := own_shape hR4.hs
            obtain ⟨t0, _, _, f0, _, _⟩ := hR4.cells
            have HR4 := Lib.hid hR4
            have HLS := Lib.hid hls
            have HLB := Lib.hid hlb
            have HLL := Lib.hid hll2
            clear hR4 hls hlb hll2 hbl hll
            go_upto_region 14 with (at_builtin; refine wpList_push elem_i rfl (.tmp 71) (.tmp 73) rfl w.heap.size rfl HR4.out.hs _ rfl rfl (by rw [HLS.out]; unfold maxLen; omega) (by rw [HLS.out]; omega) HR4.out.low ?_; intro v5 w5 ho5 hg5 hs5; have r1 := own_cell_kept hg5 HR4.out.hs HR4.out.st 0 (by decide) trivial t0; have r2 := own_frozen_kept hg5 HR4.out.hs HR4.out.st 0 (by decide) trivial t0 f0; have HR5 := Lib.hid (HR4.out.pushS hg5 ho5 hs5); obtain ⟨a5, m5, c5, rfl, HM5⟩ := own_shape ho5; clear ho5 hg5 hs5)
            clear r1 r2 t0 f0
            obtain ⟨ab2, nb, cb, rfl, HMb⟩ := own_shape HR5.out.hb
            obtain ⟨_, t1, _, _, f1, _⟩ := HR5.out.cells
            have hlo5 := HR5.out.low
            obtain ⟨w6, hw6⟩ : ∃ w6, w6 = w5.setCell ⟨tb, 0, none⟩ (.slice a5 m5 c5) := ⟨_, rfl⟩
            rw [← hw6] at HR5 t1 f1 hlo5
            rw [← hw6]
            clear hw6
            go_upto_region 15 with (at_builtin; refine wpList_push elem_i rfl (.tmp 81) (.tmp 83) rfl w.heap.size rfl HR5.out.hb _ rfl rfl (by rw [HLB.out]; unfold maxLen; omega) (by rw [HLB.out]; omega) hlo5 ?_; intro v7 w7 ho7 hg7 hs7; have r1 := own_cell_kept hg7 HR5.out.hb HR5.out.st 1 (by decide) trivial t1; have r2 := own_frozen_kept hg7 HR5.out.hb HR5.out.st 1 (by decide) trivial t1 f1; have HR7 := Lib.hid (HR5.out.pushB hg7 ho7 hs7); obtain ⟨a7, m7, c7, rfl, HM7⟩ := own_shape ho7; clear ho7 hg7 hs7)
            clear r1 r2 t1 f1
            obtain ⟨al, nl, cl, rfl, HMl⟩ := own_shape HR7.out.hl
            obtain ⟨_, _, t2, _, _, f2⟩ := HR7.out.cells
            have hlo7 := HR7.out.low
            obtain ⟨w8, hw8⟩ : ∃ w8, w8 = w7.setCell ⟨tb, 1, none⟩ (.slice a7 m7 c7) := ⟨_, rfl⟩
            rw [← hw8] at HR7 t2 f2 hlo7
            rw [← hw8]
            clear hw8
            go_wp2_with (at_builtin; refine wpList_push elem_int rfl (.tmp 91) (.tmp 93) rfl w.heap.size rfl HR7.out.hl _ rfl rfl (by rw [HLL.out]; unfold maxLen; omega) (by rw [HLL.out]; omega) hlo7 ?_; intro v9 w9 ho9 hg9 hs9; have r1 := own_cell_kept hg9 HR7.out.hl HR7.out.st 2 (by decide) trivial t2; have r2 := own_frozen_kept hg9 HR7.out.hl HR7.out.st 2 (by decide) trivial t2 f2; have HR9 := Lib.hid (HR7.out.pushL hg9 ho9); obtain ⟨a9, m9, c9, rfl, HM9⟩ := own_shape ho9; clear ho9 hg9 hs9)
            have HFin : Hid (SInv w (w9.setCell ⟨tb, 2, none⟩ (.slice a9 m9 c9)) w.heap.size tb sb m (U ++ [(to, (U.at k).2 ++ [(x : Int)])])) := by
              have h := HR9.out
              rw [itVals_snoc, ← map_snoc_int, ← map_snoc_int] at h
              have es : Tour.sets (U ++ [(to, (U.at k).2 ++ [(x : Int)])]) = U.sets ++ [to] := by simp [Tour.sets]
              refine ⟨⟨_, _, _, _, _, h.st, ?_, by simpa using h.hb, by simpa using h.hl, h.ap, HBK.out⟩, by rw [es]; exact h.sn, h.below, h.low⟩
              have h2 := h.hs
              rw [itVals_len] at h2
              rw [← Tour.sets_len', es]
              exact h2
            clear r1 r2 t2 f2 HR4 HR5 HR7 HR9
            go_wp2
            go_roundw
            case rel => exact ⟨x + 1, by omega, by go_num, by rw [HST.out]; exact HFin.out⟩
            case measure => simp [intOf]; omega
        · obtain rfl : x = xss.length := by omega
          have hr := outerT_round (rows := xss) (f := f) (i := k) (by rw [← HT.out]; exact hlt)
          rw [← HT.out, ← HUU.out] at hr
          have HR := Lib.hid hr
          clear hr
          go_wp2
          go_roundw
          case rel => exact ⟨k + 1, by rw [HR.out]; omega, by go_num, by rw [HR.out]; exact HX.out⟩
          case measure => simp [intOf]; omega
    · have hstop := tourOf_stop (rows := xss) (f := f) (i := k) (by rw [← hT]; omega) (by omega)
      rw [← hT] at hstop
      have HSTOP := Lib.hid hstop
      have HWK := Lib.hid hwk
      clear hstop hT hgt hwk hsn
      go_wp2
      go_ret
      rw [← HSTOP.out]
      exact ⟨tb, _, _, _, _, _, rfl, HWK.out, hbw⟩

end Go.Proofs.Ytocdkeidjocmkaa
