/- Lists of rows: [][][]int64 that is read, that the call owns; the laws' helpers at it. One contract each. Written by gen_cube.py. -/
import Derived.Test.YtocdkeidjocmkaaHelp2
namespace Go.Proofs.Ytocdkeidjocmkaa
set_option linter.unusedVariables false
set_option linter.unusedSimpArgs false
open Go.ChangeShapes Go.WideShapes Go.ChangeAt Go.RowKit

/-- v reads as the lists of rows -/
def Rows3 (w : World) (v : Value) (zsss : List (List (List Int))) : Prop :=
  ∃ rs : List Value, Sl w v rs ∧ rs.length = zsss.length ∧ ∀ k, k < zsss.length → Rows2 w (rs.getD k undef) (zsss.getD k [])

structure CubeAt (w : World) (v : Value) (zsss : List (List (List Int))) (ao : Option Addr) (b o c : Nat) : Prop where
  val : v = .slice ao zsss.length c
  adr : 0 < zsss.length → ao = some ⟨b, o, none⟩
  cell : ∀ k, k < zsss.length → ∃ r, w.cell? ⟨b, o + k, none⟩ = some r ∧ Rows2 w r (zsss.getD k [])
  len : zsss.length ≤ 9223372036854775807

theorem Rows3.open {w : World} {v : Value} {zsss : List (List (List Int))} (h : Rows3 w v zsss) : ∃ ao b o c, CubeAt w v zsss ao b o c := by
  obtain ⟨rs, ⟨ao, b, o, c, hv, ha, hc, hl⟩, hn, hr⟩ := h
  exact ⟨ao, b, o, c, by rw [← hn]; exact hv, by rw [← hn]; exact ha, fun k hk => ⟨_, hc k (by omega), hr k hk⟩, by omega⟩
theorem Rows3.kept {w w' : World} {v : Value} {zsss : List (List (List Int))} (h : Rows3 w v zsss) (hb : Below w.heap.size w w') : Rows3 w' v zsss := by
  obtain ⟨rs, hs, hn, hr⟩ := h
  exact ⟨rs, hs.kept hb, hn, fun k hk => (hr k hk).kept hb⟩
theorem Rows3.drewN {w : World} {v : Value} {zsss : List (List (List Int))} (h : Rows3 w v zsss) (n : Nat) : Rows3 (w.drewN n) v zsss := h.kept (below_drewN' (Below.refl _ _) n)
theorem Rows3.shape {w : World} {v : Value} {xsss : List (List (List Int))} (h : Rows3 w v xsss) : ∃ ao m c, v = .slice ao m c ∧ Hid (m = xsss.length) := by
  obtain ⟨ao, b, o, c, H⟩ := h.open
  exact ⟨_, _, _, H.val, rfl⟩
theorem Qu.cube {w w' : World} (h : Qu w w') {v : Value} {zs : List (List (List Int))} (hi : Rows3 w v zs) : Rows3 w' v zs := hi.kept (h.below _)
theorem cube_ext {xs ys : List (List (List Int))} (hl : xs.length = ys.length) (h : ∀ j, j < xs.length → xs.getD j [] = ys.getD j []) : xs = ys :=
  List.ext_getElem hl fun j h1 h2 => by simpa [List.getD_eq_getElem?_getD, h1, h2] using h j h1

/-- rows 0 .. n - 1 are owned, the blocks of row k lie from f k on and below f (k + 1) -/
def CubeRows (w : World) (lo : Nat) (rs : List Value) (f : Nat → Nat) (n : Nat) (zsss : List (List (List Int))) : Prop :=
  f n ≤ w.heap.size ∧ ∀ k, k < n → f k ≤ f (k + 1) ∧ ∃ rss, OwnRows w lo (rs.getD k undef) rss (zsss.getD k []) ∧ RowsIn (f k) (f (k + 1)) (rs.getD k undef) rss (zsss.getD k []).length

/-- lists of rows that the call owns -/
structure OwnCube (w : World) (lo : Nat) (v : Value) (rs : List Value) (zsss : List (List (List Int))) : Prop where
  outer : w.ownsRow lo 22 1 v zsss.length rs
  rows : ∃ f, CubeRows w lo rs f zsss.length zsss

section
variable {w w' : World} {lo lo' n : Nat} {v : Value} {rs : List Value} {f : Nat → Nat} {zsss : List (List (List Int))}

theorem CubeRows.mono_f (h : CubeRows w lo rs f n zsss) : ∀ k, k ≤ n → f k ≤ f n := by
  have H : ∀ d k, k + d = n → f k ≤ f n := by
    intro d
    induction d with
    | zero => intro k hk; obtain rfl : k = n := by omega
              exact Nat.le_refl _
    | succ d ih => intro k hk; exact Nat.le_trans (h.2 k (by omega)).1 (ih (k + 1) (by omega))
  exact fun k hk => H (n - k) k (by omega)
theorem CubeRows.below (h : CubeRows w lo rs f n zsss) (hb : Below w.heap.size w w') : CubeRows w' lo rs f n zsss :=
  ⟨Nat.le_trans h.1 hb.size, fun k hk => ⟨(h.2 k hk).1, by obtain ⟨rss, h1, h2⟩ := (h.2 k hk).2; exact ⟨rss, h1.below hb, h2⟩⟩⟩
theorem CubeRows.lower (h : CubeRows w lo rs f n zsss) (hl : lo' ≤ lo) : CubeRows w lo' rs f n zsss :=
  ⟨h.1, fun k hk => ⟨(h.2 k hk).1, by obtain ⟨rss, h1, h2⟩ := (h.2 k hk).2; exact ⟨rss, h1.mono hl, h2⟩⟩⟩
theorem OwnRows.kept_out {r : Value} {rss : List Value} {zss : List (List Int)} {lo2 n2 : Nat} {xs : List Value} (h : OwnRows w lo r rss zss) (ho : w.ownsRow lo2 22 1 v n2 xs) (hg : w.grownBy w' v.ownBlock) : OwnRows w' lo r rss zss :=
  ⟨h.outer.kept hg (own_ne h.outer ho (by decide)), fun k hk => (h.row k hk).kept hg (own_ne (h.row k hk) ho (by decide)), h.apart⟩
theorem CubeRows.kept_out {lo2 n2 : Nat} {xs : List Value} (h : CubeRows w lo rs f n zsss) (ho : w.ownsRow lo2 22 1 v n2 xs) (hg : w.grownBy w' v.ownBlock) : CubeRows w' lo rs f n zsss :=
  ⟨Nat.le_trans h.1 hg.size, fun k hk => ⟨(h.2 k hk).1, by obtain ⟨rss, h1, h2⟩ := (h.2 k hk).2; exact ⟨rss, h1.kept_out ho hg, h2⟩⟩⟩
theorem CubeRows.congr {rs2 : List Value} {zsss2 : List (List (List Int))} (h : CubeRows w lo rs f n zsss) (h1 : ∀ k, k < n → rs2.getD k undef = rs.getD k undef) (h2 : ∀ k, k < n → zsss2.getD k [] = zsss.getD k []) : CubeRows w lo rs2 f n zsss2 :=
  ⟨h.1, fun k hk => by rw [h1 k hk, h2 k hk]; exact h.2 k hk⟩
/-- one row more, whose blocks are new -/
theorem CubeRows.snoc {W : World} {r : Value} {rss : List Value} {zss : List (List Int)} (h : CubeRows w lo rs f n zsss) (hf : f n ≤ W.heap.size) (ho : OwnRows w lo r rss zss) (hi : RowsIn W.heap.size w.heap.size r rss zss.length) (hs : W.heap.size ≤ w.heap.size) (hr : rs.getD n undef = r) (hz : zsss.getD n [] = zss) :
    CubeRows w lo rs (fun k => if k ≤ n then f k else w.heap.size) (n + 1) zsss := by
  refine ⟨by simp only [show ¬ (n + 1 ≤ n) by omega, if_false]; exact Nat.le_refl _, fun k hk => ?_⟩
  by_cases hkn : k < n
  · obtain ⟨h1, h2⟩ := h.2 k hkn
    simp only [show k ≤ n by omega, show k + 1 ≤ n by omega, if_true]
    exact ⟨h1, h2⟩
  · obtain rfl : k = n := by omega
    simp only [Nat.le_refl, if_true, show ¬ (k + 1 ≤ k) by omega, if_false]
    rw [hr, hz]
    exact ⟨by omega, rss, ho, ⟨fun g hg => by have := hi.outer g hg; omega, fun j hj g hg => by have := hi.row j hj g hg; omega⟩⟩

theorem OwnCube.len (h : OwnCube w lo v rs zsss) : rs.length = zsss.length := by have := h.outer.1; omega
theorem OwnCube.reads (h : OwnCube w lo v rs zsss) : Rows3 w v zsss := by
  obtain ⟨f, hf⟩ := h.rows
  exact ⟨rs, sl_of_own h.outer, h.len, fun k hk => by obtain ⟨rss, h1, _⟩ := (hf.2 k hk).2; exact h1.reads⟩
theorem OwnCube.below (h : OwnCube w lo v rs zsss) (hb : Below w.heap.size w w') : OwnCube w' lo v rs zsss :=
  ⟨own_below h.outer hb, by obtain ⟨f, hf⟩ := h.rows; exact ⟨f, hf.below hb⟩⟩
theorem OwnCube.mono (h : OwnCube w lo v rs zsss) (hl : lo' ≤ lo) : OwnCube w lo' v rs zsss :=
  ⟨own_lo h.outer hl, by obtain ⟨f, hf⟩ := h.rows; exact ⟨f, hf.lower hl⟩⟩
theorem OwnCube.set_below (h : OwnCube w lo v rs zsss) {b : Nat} (hb : b < lo) (o : Nat) (u : Value) : OwnCube (w.setCell ⟨b, o, none⟩ u) lo v rs zsss :=
  ⟨ownsRow_setCell_below h.outer hb u, by
    obtain ⟨f, hf⟩ := h.rows
    exact ⟨f, by simpa using hf.1, fun k hk => ⟨(hf.2 k hk).1, by obtain ⟨rss, h1, h2⟩ := (hf.2 k hk).2; exact ⟨rss, h1.set_below hb o u, h2⟩⟩⟩⟩
end

/-- it returns new lists of rows -/
def NewCube (zsss : List (List (List Int))) (w : World) (e : Ending) (w' : World) : Prop :=
  ∃ v rs, e = .returned v ∧ OwnCube w' w.heap.size v rs zsss ∧ Below w.heap.size w w'
/-- a struct of a number and lists of rows -/
def NewChoice (st : Int) (xsss : List (List (List Int))) (w : World) (e : Ending) (w' : World) : Prop :=
  ∃ v rs, e = .returned (.agg #[.int .i64 st, v]) ∧ OwnCube w' w.heap.size v rs xsss ∧ Below w.heap.size w w'

/-- how many rows and numbers -/
def bulk3 (zsss : List (List (List Int))) : Nat := (zsss.map fun z => z.length + bulk2 z).sum
theorem bulk3_take (zsss : List (List (List Int))) (k : Nat) (h : k < zsss.length) : bulk3 (zsss.take (k + 1)) = bulk3 (zsss.take k) + ((zsss.getD k []).length + bulk2 (zsss.getD k [])) := by
  unfold bulk3
  rw [List.take_succ_eq_append_getElem h, List.map_append, List.sum_append]
  simp [List.getD_eq_getElem?_getD, h]
theorem bulk3_le (zsss : List (List (List Int))) (k : Nat) : bulk3 (zsss.take k) ≤ bulk3 zsss := by
  have h : bulk3 zsss = bulk3 (zsss.take k) + bulk3 (zsss.drop k) := by
    conv => lhs; rw [← List.take_append_drop k zsss]
    unfold bulk3; rw [List.map_append, List.sum_append]
  omega

/-- lists of rows that are no more than the law lets -/
def ArgCube (w : World) (v : Value) (xsss : List (List (List Int))) : Prop := Rows3 w v xsss ∧ xsss.length + bulk3 xsss ≤ 1048576
theorem info_rows : (Try.prog.info? 22).map (fun i => (i.zero, i.size, i.bytes)) = some (some (.slice none 0 0), 1, 24) := by kernel_rfl



theorem eqCube_any (v1 v2 : Value) (xs ys : List (List (List Int))) (w : World) (h1 : Rows3 w v1 xs) (h2 : Rows3 w v2 ys) :
    Calls Try.prog 44 #[v1, v2] w (RetQ (.bool (decide (xs = ys))) w) := by
  obtain ⟨ao1, p1, o1, c1, H1⟩ := h1.open
  obtain ⟨ao2, p2, o2, c2, H2⟩ := h2.open
  obtain rfl := H1.val
  obtain rfl := H2.val
  clear h1 h2
  have hm := H1.len
  by_cases hl : ys.length = xs.length
  · have A2 := H2.adr
    rw [hl] at A2 ⊢
    have HL := Lib.hid hl
    clear hl
    go_enter Try.func44, Try.ntmps44
    go_wp2
    go_loopw [5] (fun i wr => ∃ k : Nat, k ≤ xs.length ∧ i = .int .i64 k ∧ Hid (∀ j, j < k → xs.getD j [] = ys.getD j []) ∧ Qu w wr) (fun i _ => xs.length - (intOf i).toNat)
    case atStart => exact ⟨0, Nat.zero_le _, rfl, fun j hj => absurd hj (by omega), Qu.refl _⟩
    case round =>
      obtain ⟨k, hk, rfl, hpre, hq⟩ := hrel
      by_cases hlt : k < xs.length
      · have i1 := idx_of Try.underlying26 size1_rows (c := c1) H1.adr hlt .i64
        have i2 := idx_of Try.underlying26 size1_rows (c := c2) A2 hlt .i64
        obtain ⟨r1, d1, hr1⟩ := H1.cell k hlt
        obtain ⟨r2, d2, hr2⟩ := H2.cell k (by rw [HL.out]; exact hlt)
        replace d1 := hq.cell d1
        replace d2 := hq.cell d2
        replace hr1 := hq.rows hr1
        replace hr2 := hq.rows hr2
        clear A2
        by_cases hz : xs.getD k [] = ys.getD k []
        · have hb : decide (xs.getD k [] = ys.getD k []) = true := decide_eq_true hz
          obtain ⟨bb, hbb⟩ : ∃ bb, bb = decide (xs.getD k [] = ys.getD k []) := ⟨_, rfl⟩
          have C := fun n => eqRows_any r1 r2 _ _ (wr.drewN n) (hr1.drewN n) (hr2.drewN n)
          rw [hb] at C
          have HZ := Lib.hid hz
          have HC := Lib.hid C
          clear hz hb C hbb hr1 hr2
          go_wp2
          go_quiet ((go_at_call 28; exact Calls.quiet_of (HC.out _)))
          go_wp2
          go_roundw
          case rel => exact ⟨k + 1, by omega, by go_num, fun j hj => by
            rcases Nat.lt_or_ge j k with h | h
            · exact hpre.out j h
            · obtain rfl : j = k := by omega
              exact HZ.out, hq.drewN _⟩
          case measure => simp [intOf]; omega
        · have hb : decide (xs.getD k [] = ys.getD k []) = false := decide_eq_false hz
          have C := fun n => eqRows_any r1 r2 _ _ (wr.drewN n) (hr1.drewN n) (hr2.drewN n)
          rw [hb] at C
          have HZ := Lib.hid hz
          have HC := Lib.hid C
          clear hz hb C hr1 hr2
          go_wp2
          go_quiet ((go_at_call 28; exact Calls.quiet_of (HC.out _)))
          go_wp2
          go_ret
          exact ⟨ret_bool (decide_eq_false fun h => HZ.out (by rw [h])).symm, hq.drewN _⟩
      · go_wp2
        go_ret
        exact ⟨ret_bool (decide_eq_true (cube_ext HL.out.symm fun j hj => hpre.out j (by omega))).symm, hq⟩
  · have hb : ((xs.length : Int) != ys.length) = true := by simp; omega
    have HL := Lib.hid hl
    clear hl
    go_enter Try.func44, Try.ntmps44
    go_wp2
    go_ret
    exact ⟨ret_bool (decide_eq_false fun h => HL.out (by rw [h])).symm, Qu.refl _⟩

theorem szCube_any (v : Value) (zsss : List (List (List Int))) (w : World) (l0 : Int) (h1 : Rows3 w v zsss) (h0 : 0 ≤ l0) (hl0 : l0 ≤ 1048576) :
    Calls Try.prog 66 #[v, .int .i64 l0] w (SzPost l0 (zsss.length + bulk3 zsss) w) := by
  obtain ⟨ao1, p1, o1, c1, H1⟩ := h1.open
  obtain rfl := H1.val
  clear h1
  have hm := H1.len
  by_cases h : l0 < zsss.length
  · go_enter Try.func66, Try.ntmps66
    go_wp2
    go_ret
    exact ⟨⟨0, rfl⟩, _, rfl, .inl rfl⟩
  · go_enter Try.func66, Try.ntmps66
    go_wp2
    go_loopw [1, 5] (fun l i wr => ∃ (k : Nat) (q : Int), k ≤ zsss.length ∧ i = .int .i64 k ∧ l = .int .i64 q ∧ 0 ≤ q ∧ q ≤ 1048576 ∧ Hid (q + zsss.length + bulk3 (zsss.take k) = l0) ∧ Qu w wr) (fun _ i _ => zsss.length - (intOf i).toNat)
    case atStart => exact ⟨0, l0 - zsss.length, Nat.zero_le _, rfl, by go_num, by omega, by omega, by simp [Hid, bulk3], Qu.refl _⟩
    case round =>
      obtain ⟨k, q, hk, rfl, rfl, hq0, hq1, hpre, hqu⟩ := hrel
      by_cases hlt : k < zsss.length
      · have i1 := idx_of Try.underlying26 size1_rows (c := c1) H1.adr hlt .i64
        obtain ⟨r, d1, hr⟩ := H1.cell k hlt
        replace d1 := hqu.cell d1
        replace hr := hqu.rows hr
        have HB := Lib.hid (bulk3_take zsss k hlt)
        have HC := Lib.hid (szRows_any r (zsss.getD k []) wr q hr hq0 hq1)
        clear hr
        go_wp2_with fail
        refine HC.out.mono ?_
        rintro e w' ⟨hq2, s, rfl, hs⟩
        have hq3 := hqu.trans hq2
        rcases hs with rfl | ⟨hs0, hs⟩
        · go_wp2
          go_ret
          exact ⟨hq3, _, rfl, .inl rfl⟩
        · have hs1 : s ≤ 1048576 := by omega
          have HS := Lib.hid hs
          clear hs
          go_wp2
          go_roundw
          case rel => exact ⟨k + 1, s, by omega, by go_num, rfl, by omega, by omega, by have a := hpre.out; have b := HB.out; have c := HS.out; unfold Hid; omega, hq3⟩
          case measure => simp [intOf]; omega
      · go_wp2
        go_ret
        refine ⟨hqu, _, rfl, .inr ⟨hq0, ?_⟩⟩
        have a := hpre.out
        rw [List.take_of_length_le (by omega)] at a
        omega


theorem toCube_any (v1 : Value) (xsss : List (List (List Int))) (w : World) (h1 : Rows3 w v1 xsss) (hs : xsss.length + bulk3 xsss ≤ 1048576) :
    Calls Try.prog 73 #[v1] w (NewCube xsss w) := by
  obtain ⟨ao1, p1, o1, c1, H1⟩ := h1.open
  obtain rfl := H1.val
  have hs1 : xsss.length ≤ 1048576 := by omega
  have HS := Lib.hid hs
  clear hs
  obtain ⟨i0, hi, hz0, hz1, hz2⟩ := info_parts info_rows
  go_enter Try.func73, Try.ntmps73
  go_wp2_with (at_make; refine wpList_make_full _ rfl _ _ 26 rfl w.heap.size 22 i0 (.slice none 0 0) 1 Try.underlying26 hi hz0 hz1 .i64 .i64 xsss.length xsss.length xsss.length rfl rfl rfl rfl (by rw [hz2]; omega) (by unfold maxLen; omega) (Nat.le_refl _) ?_; intro w1 hown hgr)
  have hs0 : (madeCells (Value.cells (.slice none 0 0)) (xsss.length * 1)).toList = List.replicate xsss.length (.slice none 0 0) := by
    show (madeCells #[Value.slice none 0 0] (xsss.length * 1)).toList = _
    rw [toList_madeCells_one]; simp
  rw [hs0] at hown
  have hbel : Below w.heap.size w w1 := Below.grown (Below.refl _ _) hgr (Nat.le_refl _) (by intro k h; cases h)
  have HOWN := Lib.hid hown
  clear hown hs0
  go_loopw [4] (fun i wr => ∃ k : Nat, k ≤ xsss.length ∧ i = .int .i64 k ∧ Hid (∃ rs f, wr.ownsRow w.heap.size 22 1 (.slice (some ⟨w.heap.size, 0, none⟩) xsss.length xsss.length) xsss.length rs ∧ CubeRows wr w.heap.size rs f k xsss) ∧ Below w.heap.size w wr) (fun i _ => xsss.length - (intOf i).toNat)
  case atStart => exact ⟨0, Nat.zero_le _, rfl, ⟨_, fun _ => 0, HOWN.out, Nat.zero_le _, fun k hk => absurd hk (by omega)⟩, hbel⟩
  case round =>
    obtain ⟨k, hk, rfl, HO, hb⟩ := hrel
    by_cases hlt : k < xsss.length
    · have i1 := idx_of Try.underlying26 size1_rows (c := c1) H1.adr hlt .i64
      obtain ⟨r, d1, hr⟩ := H1.cell k hlt
      replace d1 := (hb.cell (block_lt_of_cell d1)).trans d1
      replace hr := hr.kept hb
      have e1 := bulk3_take xsss k hlt
      have e2 := bulk3_le xsss (k + 1)
      have HC := Lib.hid (toRows_any r (xsss.getD k []) wr hr (by have := HS.out; omega))
      clear hr e1 e2
      go_wp2_with fail
      refine HC.out.mono ?_
      rintro e w2 ⟨r2, rs2, rfl, hr2, hb2⟩
      obtain ⟨ao3, m3, c3, rfl, HM3⟩ := own_shape hr2.outer
      obtain ⟨rs, f, ho, hcr⟩ := HO.out
      have hlen : rs.length = xsss.length := by have := ho.1; omega
      have ho2 := own_below ho hb2
      have hcr2 := hcr.below hb2
      have hst := ho2.stored k (.slice ao3 m3 c3)
      have hg : w2.grownBy (w2.setCell ⟨w.heap.size, k, none⟩ (.slice ao3 m3 c3)) (Value.slice (some ⟨w.heap.size, 0, none⟩) xsss.length xsss.length).ownBlock := hst.2
      have hlo : w.heap.size ≤ wr.heap.size := hb.size
      have hnew := (hcr2.congr (rs2 := rs.set k (.slice ao3 m3 c3)) (zsss2 := xsss) (fun j hj => getD_set_other _ _ _ _ _ (by omega)) (fun j hj => rfl)).snoc (W := wr) hcr.1 (hr2.mono hlo) hr2.within hb2.size (getD_set_same _ _ _ _ (by omega)) rfl
      have hnew2 := hnew.kept_out ho2 hg
      have hc := ho2.cellAt k (by omega)
      have hsome : (w2.cell? ⟨w.heap.size, k, none⟩).isSome = true := by rw [hc]; simp; omega
      obtain ⟨u, hu⟩ := Option.isSome_iff_exists.1 hsome
      have hf := ho2.frozenAt k
      have hbel2 : Below w.heap.size w w2 := hb.trans (hb2.mono hb.size)
      have HST := Lib.hid hst.1
      have HNEW := Lib.hid hnew2
      have HB2 := Lib.hid hbel2
      clear hst hc hsome hlen ho ho2 hr2 hb2 hbel2 hcr hcr2 hnew hnew2 hg hlo
      go_wp2
      go_roundw
      case rel => exact ⟨k + 1, by omega, by go_num, ⟨_, _, HST.out, HNEW.out⟩, HB2.out.setCell (by simp) _⟩
      case measure => simp [intOf]; omega
    · go_wp2
      go_ret
      obtain ⟨rs, f, ho, hcr⟩ := HO.out
      obtain rfl : k = xsss.length := by omega
      exact ⟨_, rs, rfl, ⟨ho, f, hcr⟩, hb⟩


theorem toChoice_any (st : Int) (v : Value) (xss : List (List (List Int))) (w : World) (h1 : Rows3 w v xss) (hs : xss.length + bulk3 xss ≤ 1048576) :
    Calls Try.prog 38 #[.agg #[.int .i64 st, v]] w (NewChoice st xss w) := by
  obtain ⟨ao, m, c, rfl, HM⟩ := h1.shape
  have HC := fun W (hb : Below w.heap.size w W) => toCube_any _ xss W (h1.kept hb) hs
  have HH := Lib.hid HC
  clear h1 HC hs
  go_enter Try.func38, Try.ntmps38
  go_wp2_with fail
  refine (HH.out _ ?_).mono ?_
  · repeat (first | exact Below.refl _ _ | refine below_alloc ?_ _ | refine below_set ?_ (by first | omega | simp) _ _)
  rintro e w2 ⟨v2, rs, rfl, ho, hb⟩
  obtain ⟨ao2, m2, c2, rfl, HM2⟩ := own_shape ho.outer
  obtain ⟨hc, hf⟩ := bcell hb
  have hz : w.heap.size + 2 < w2.heap.size := by have := hb.size; simp at this; omega
  go_wp2
  refine bodyPost_ret (v := .agg #[.int .i64 st, .slice ao2 m2 c2]) (by simp [results, Try.results38, go_sem, hc, hz]) rfl ⟨_, rs, rfl, ?_, ?_⟩
  · refine OwnCube.mono (lo := w.heap.size + 3) ?_ (by omega)
    repeat (first | refine OwnCube.set_below ?_ (by first | omega | simp) _ _)
    simpa using ho
  · repeat (first | exact Below.refl _ _ | refine below_alloc ?_ _ | refine below_set ?_ (by first | omega | simp) _ _ | refine below_trans ?_ hb)

theorem szChoice_any (st : Int) (v : Value) (xss : List (List (List Int))) (l0 : Int) (w : World) (h1 : Rows3 w v xss) (h0 : 0 ≤ l0) (hl0 : l0 ≤ 1048576) :
    Calls Try.prog 36 #[.agg #[.int .i64 st, v], .int .i64 l0] w (SzPost2 l0 (xss.length + bulk3 xss) w) := by
  obtain ⟨ao, m, c, rfl, HM⟩ := h1.shape
  have HC := fun W (hb : Below w.heap.size w W) => szCube_any _ xss W l0 (h1.kept hb) h0 hl0
  have HH := Lib.hid HC
  clear h1 HC
  go_enter Try.func36, Try.ntmps36
  go_wp2_with fail
  refine (HH.out _ ?_).mono ?_
  · repeat (first | exact Below.refl _ _ | refine below_alloc ?_ _)
  rintro e w2 ⟨hq, r, rfl, hr⟩
  have hbel : Below w.heap.size w w2 := below_trans (by repeat (first | exact Below.refl _ _ | refine below_alloc ?_ _)) (hq.below _)
  rcases hr with rfl | ⟨hr0, hr⟩
  · go_wp2
    go_ret
    exact ⟨hbel, _, rfl, .inl rfl⟩
  · have HR := Lib.hid hr
    clear hr
    go_wp2
    go_ret
    exact ⟨hbel, _, rfl, .inr ⟨hr0, HR.out⟩⟩

theorem eqChoice_any (s1 s2 : Int) (v1 v2 : Value) (xs ys : List (List (List Int))) (w : World) (h1 : Rows3 w v1 xs) (h2 : Rows3 w v2 ys) :
    Calls Try.prog 12 #[.agg #[.int .i64 s1, v1], .agg #[.int .i64 s2, v2]] w (RetB (.bool (decide (s1 = s2 ∧ xs = ys))) w) := by
  obtain ⟨ao1, m1, c1, rfl, HM1⟩ := h1.shape
  obtain ⟨ao2, m2, c2, rfl, HM2⟩ := h2.shape
  by_cases hs : s1 = s2
  · have hb : (s1 != s2) = false := by simp [hs]
    by_cases hx : xs = ys
    · have HC := fun W (hb : Below w.heap.size w W) => eqCube_any _ _ xs ys W (h1.kept hb) (h2.kept hb)
      rw [decide_eq_true hx] at HC
      have HH := Lib.hid HC
      have HS := Lib.hid hs
      have HX := Lib.hid hx
      clear h1 h2 HC hs hx
      go_enter Try.func12, Try.ntmps12
      go_wp2_with fail
      refine (HH.out _ ?_).mono ?_
      · repeat (first | exact Below.refl _ _ | refine below_alloc ?_ _ | refine below_drewN' ?_ _)
      rintro e w2 ⟨rfl, hq⟩
      have hbel : Below w.heap.size w w2 := below_trans (by repeat (first | exact Below.refl _ _ | refine below_alloc ?_ _)) (hq.below _)
      go_wp2
      go_ret
      exact ⟨ret_bool (decide_eq_true ⟨HS.out, HX.out⟩).symm, hbel⟩
    · have HC := fun W (hb : Below w.heap.size w W) => eqCube_any _ _ xs ys W (h1.kept hb) (h2.kept hb)
      rw [decide_eq_false hx] at HC
      have HH := Lib.hid HC
      have HX := Lib.hid hx
      clear h1 h2 HC hs hx
      go_enter Try.func12, Try.ntmps12
      go_wp2_with fail
      refine (HH.out _ ?_).mono ?_
      · repeat (first | exact Below.refl _ _ | refine below_alloc ?_ _ | refine below_drewN' ?_ _)
      rintro e w2 ⟨rfl, hq⟩
      have hbel : Below w.heap.size w w2 := below_trans (by repeat (first | exact Below.refl _ _ | refine below_alloc ?_ _)) (hq.below _)
      go_wp2
      go_ret
      exact ⟨ret_bool (decide_eq_false fun h => HX.out h.2).symm, hbel⟩
  · have hb : (s1 != s2) = true := by simp [hs]
    have HS := Lib.hid hs
    clear h1 h2 hs
    go_enter Try.func12, Try.ntmps12
    go_wp2
    go_ret
    exact ⟨ret_bool (decide_eq_false fun h => HS.out h.1).symm, by repeat (first | exact Below.refl _ _ | refine below_alloc ?_ _)⟩

theorem eqChoice_yes (s : Int) (v1 v2 : Value) (xs : List (List (List Int))) (w : World) (h1 : Rows3 w v1 xs) (h2 : Rows3 w v2 xs) :
    Calls Try.prog 12 #[.agg #[.int .i64 s, v1], .agg #[.int .i64 s, v2]] w (RetB (.bool true) w) := by
  have := eqChoice_any s s v1 v2 xs xs w h1 h2
  rwa [show decide (s = s ∧ xs = xs) = true by simp] at this

end Go.Proofs.Ytocdkeidjocmkaa
