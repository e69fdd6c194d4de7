/- The laws' own helpers that make or write memory: toInt64S, toInt64SS, markInt64S, markInt64SS. One contract each. -/
import Derived.Test.YtocdkeidjocmkaaHelp1
import Derived.Test.YtocdkeidjocmkaaOwn
namespace Go.Proofs.Ytocdkeidjocmkaa
set_option linter.unusedVariables false
set_option linter.unusedSimpArgs false
open Go.ChangeShapes Go.WideShapes Go.ChangeAt Go.RowKit

theorem info_int : (Try.prog.info? 2).map (fun i => (i.zero, i.size, i.bytes)) = some (some (.int .i64 0), 1, 8) := by kernel_rfl
theorem info_ints : (Try.prog.info? 55).map (fun i => (i.zero, i.size, i.bytes)) = some (some (.slice none 0 0), 1, 24) := by kernel_rfl

theorem toInts_any (v1 : Value) (xs : List Int) (w : World) (h1 : Ints w v1 xs) (hs : xs.length ≤ 1048576) :
    Calls Try.prog 82 #[v1] w (NewInts xs w) := by
  obtain ⟨ao1, p1, o1, c1, H1⟩ := h1.open
  obtain rfl := H1.val
  obtain ⟨i0, hi, hz0, hz1, hz2⟩ := info_parts info_int
  go_enter Try.func82, Try.ntmps82
  go_wp2_with (at_make; refine wpList_make_full _ rfl _ _ 55 rfl w.heap.size 2 i0 (.int .i64 0) 1 Try.underlying55 hi hz0 hz1 .i64 .i64 xs.length xs.length xs.length rfl rfl rfl rfl (by rw [hz2]; omega) (by unfold maxLen; omega) (Nat.le_refl _) ?_; intro w1 hown hgr)
  have hs0 : (madeCells (Value.cells (.int .i64 0)) (xs.length * 1)).toList = (xs.take 0 ++ List.replicate (xs.length - 0) (0 : Int)).map (Value.int .i64) := by
    show (madeCells #[Value.int .i64 0] (xs.length * 1)).toList = _
    rw [toList_madeCells_one]; simp
  rw [hs0] at hown
  have hbel : Below w.heap.size w w1 := Below.grown (Below.refl _ _) hgr (Nat.le_refl _) (by intro k h; cases h)
  have HOWN := Lib.hid hown
  clear hown hs0
  go_loopw [4] (fun i wr => ∃ k : Nat, k ≤ xs.length ∧ i = .int .i64 k ∧ Hid (wr.ownsRow w.heap.size 2 1 (.slice (some ⟨w.heap.size, 0, none⟩) xs.length xs.length) xs.length ((xs.take k ++ List.replicate (xs.length - k) (0 : Int)).map (Value.int .i64))) ∧ Below w.heap.size w wr) (fun i _ => xs.length - (intOf i).toNat)
  case atStart => exact ⟨0, Nat.zero_le _, rfl, HOWN, hbel⟩
  case round =>
    obtain ⟨k, hk, rfl, HO, hb⟩ := hrel
    by_cases hlt : k < xs.length
    · have i1 := idx_of Try.underlying55 size1_int (c := c1) H1.adr hlt .i64
      obtain ⟨z, hz, d1⟩ := (h1.kept hb).open.choose_spec.choose_spec.choose_spec.choose_spec.at hlt
      have d1' := (hb.cell (block_lt_of_cell (H1.cell k hlt))).trans (H1.cell k hlt)
      rw [hz] at d1'
      have hc := HO.out.cellAt k (by omega)
      have hf := HO.out.frozenAt k
      have hst := HO.out.stored k (.int .i64 z)
      have e1 : ((xs.take k ++ List.replicate (xs.length - k) (0 : Int)).map (Value.int .i64)).set k (.int .i64 z) = (xs.take (k + 1) ++ List.replicate (xs.length - (k + 1)) (0 : Int)).map (Value.int .i64) := by
        rw [← hz, ← fill_step xs 0 k hlt, List.map_set]
      rw [e1] at hst
      have hsome : (wr.cell? ⟨w.heap.size, k, none⟩).isSome = true := by rw [hc]; simp; omega
      obtain ⟨u, hu⟩ := Option.isSome_iff_exists.1 hsome
      clear hsome
      have HST := Lib.hid hst
      clear hst e1 hz hc d1
      go_wp2
      go_roundw
      case rel => exact ⟨k + 1, by omega, by go_num, HST.out.1, hb.setCell (by simp) _⟩
      case measure => simp [intOf]; omega
    · go_wp2
      go_ret
      refine ⟨_, rfl, ?_, hb⟩
      have := HO.out
      rw [List.take_of_length_le (by omega), show xs.length - k = 0 by omega] at this
      simpa using this

theorem markInts_any (v : Value) (lo n : Nat) (xs : List Int) (k0 : Int) (w : World) (hown : w.ownsRow lo 2 1 v n (xs.map (Value.int .i64))) (h0 : 0 ≤ k0) (hk0 : k0 + n ≤ 4611686018427387904) :
    Calls Try.prog 34 #[v, .int .i64 k0] w fun e w' => e = .returned (.int .i64 (k0 + n)) ∧ w'.ownsRow lo 2 1 v n ((run k0 n).map (Value.int .i64)) ∧ w.grownBy w' v.ownBlock := by
  have hn : xs.length = n := by have := hown.1; simpa using this
  subst hn
  by_cases hn0 : xs.length = 0
  · have hv : ∃ ao c, v = .slice ao 0 c := by
      rcases hown.2 with ⟨rfl, _⟩ | ⟨g, cap, cur, rfl, _⟩
      · exact ⟨_, _, rfl⟩
      · rw [hn0]; exact ⟨_, _, rfl⟩
    obtain ⟨ao, c, rfl⟩ := hv
    have hx : xs = [] := List.eq_nil_of_length_eq_zero hn0
    subst hx
    have HOWN := Lib.hid hown
    clear hown
    go_enter Try.func34, Try.ntmps34
    go_wp2
    refine wp_loop_rounds 1 ?_
    rw [rounds_succ]
    go_wp2
    go_ret
    exact ⟨by simp, by simpa [run] using HOWN.out, World.grownBy.refl _ _⟩
  · obtain ⟨g, cap, rfl, hcap⟩ := own_some hown (by omega)
    have HOWN := Lib.hid hown
    have hm : xs.length ≤ 4611686018427387904 := by omega
    clear hown
    go_enter Try.func34, Try.ntmps34
    go_wp2
    go_loopw [1, 5] (fun q i wr => ∃ k : Nat, k ≤ xs.length ∧ i = .int .i64 k ∧ q = .int .i64 (k0 + k) ∧ Hid (wr.ownsRow lo 2 1 (.slice (some ⟨g, 0, none⟩) xs.length cap) xs.length ((run k0 k ++ xs.drop k).map (Value.int .i64))) ∧ w.grownBy wr (some g)) (fun _ i _ => xs.length - (intOf i).toNat)
    case atStart => exact ⟨0, Nat.zero_le _, rfl, by go_num, by simpa [run, Hid] using HOWN.out, World.grownBy.refl _ _⟩
    case round =>
      obtain ⟨k, hk, rfl, rfl, HO, hg⟩ := hrel
      by_cases hlt : k < xs.length
      · have hc := HO.out.cellAt k (by omega)
        have hf := HO.out.frozenAt k
        have hst := HO.out.stored k (.int .i64 (k0 + k))
        have e1 : ((run k0 k ++ xs.drop k).map (Value.int .i64)).set k (.int .i64 (k0 + k)) = (run k0 (k + 1) ++ xs.drop (k + 1)).map (Value.int .i64) := by
          rw [← List.map_set, run_step k0 k xs hlt]
        rw [e1] at hst
        have hsome : (wr.cell? ⟨g, k, none⟩).isSome = true := by rw [hc]; simp [run_length]; omega
        obtain ⟨u, hu⟩ := Option.isSome_iff_exists.1 hsome
        clear hsome
        have hg' := grown_trans hg hst.2
        have HST := Lib.hid hst
        have HG := Lib.hid hg'
        clear hst e1 hc hg hg'
        go_wp2
        go_roundw
        case rel => exact ⟨k + 1, by omega, by go_num, by go_num, HST.out.1, HG.out⟩
        case measure => simp [intOf]; omega
      · obtain rfl : k = xs.length := by omega
        go_wp2
        go_ret
        refine ⟨rfl, ?_, hg⟩
        have := HO.out
        simpa using this

theorem toRows_any (v1 : Value) (xss : List (List Int)) (w : World) (h1 : Rows2 w v1 xss) (hs : xss.length + bulk2 xss ≤ 1048576) :
    Calls Try.prog 42 #[v1] w (NewRows xss w) := by
  obtain ⟨ao1, p1, o1, c1, H1⟩ := h1.open
  obtain rfl := H1.val
  have hs1 : xss.length ≤ 1048576 := by omega
  have HS := Lib.hid hs
  clear hs
  obtain ⟨i0, hi, hz0, hz1, hz2⟩ := info_parts info_ints
  go_enter Try.func42, Try.ntmps42
  go_wp2_with (at_make; refine wpList_make_full _ rfl _ _ 22 rfl w.heap.size 55 i0 (.slice none 0 0) 1 Try.underlying22 hi hz0 hz1 .i64 .i64 xss.length xss.length xss.length rfl rfl rfl rfl (by rw [hz2]; omega) (by unfold maxLen; omega) (Nat.le_refl _) ?_; intro w1 hown hgr)
  have hs0 : (madeCells (Value.cells (.slice none 0 0)) (xss.length * 1)).toList = List.replicate xss.length (.slice none 0 0) := by
    show (madeCells #[Value.slice none 0 0] (xss.length * 1)).toList = _
    rw [toList_madeCells_one]; simp
  rw [hs0] at hown
  have hbel : Below w.heap.size w w1 := Below.grown (Below.refl _ _) hgr (Nat.le_refl _) (by intro k h; cases h)
  have hown2 : OwnRows w1 w.heap.size (.slice (some ⟨w.heap.size, 0, none⟩) xss.length xss.length) (List.replicate xss.length (.slice none 0 0)) (xss.take 0 ++ List.replicate (xss.length - 0) []) := by
    refine ⟨by simpa using hown, fun k hk => ?_, fun i j _ hj => ?_⟩
    · have hk' : k < xss.length := by simpa using hk
      rw [show (List.replicate xss.length (Value.slice none 0 0)).getD k undef = .slice none 0 0 by simp [List.getD_eq_getElem?_getD, hk']]
      rw [show (xss.take 0 ++ List.replicate (xss.length - 0) ([] : List Int)).getD k [] = [] by simp [List.getD_eq_getElem?_getD, hk']]
      exact World.ownsRow_nil _ _ _ _
    · have hj' : j < xss.length := by simpa using hj
      left
      rw [show (List.replicate xss.length (Value.slice none 0 0)).getD i undef = .slice none 0 0 by simp [List.getD_eq_getElem?_getD, show i < xss.length by omega]]
      rfl
  have HOWN := Lib.hid hown2
  clear hown hs0 hown2
  go_loopw [4] (fun i wr => ∃ k : Nat, k ≤ xss.length ∧ i = .int .i64 k ∧ Hid (∃ rs, OwnRows wr w.heap.size (.slice (some ⟨w.heap.size, 0, none⟩) xss.length xss.length) rs (xss.take k ++ List.replicate (xss.length - k) [])) ∧ Below w.heap.size w wr) (fun i _ => xss.length - (intOf i).toNat)
  case atStart => exact ⟨0, Nat.zero_le _, rfl, ⟨_, HOWN.out⟩, hbel⟩
  case round =>
    obtain ⟨k, hk, rfl, HO, hb⟩ := hrel
    by_cases hlt : k < xss.length
    · have i1 := idx_of Try.underlying22 size1_ints (c := c1) H1.adr hlt .i64
      obtain ⟨r, d1, hr⟩ := H1.cell k hlt
      replace d1 := (hb.cell (block_lt_of_cell d1)).trans d1
      replace hr := hr.kept hb
      have e1 := bulk2_take xss k hlt
      have e2 := bulk2_le xss (k + 1)
      have HC := Lib.hid (toInts_any r (xss.getD k []) wr hr (by have := HS.out; omega))
      clear hr e1 e2
      go_wp2_with fail
      refine HC.out.mono ?_
      rintro e w2 ⟨r2, rfl, hr2, hb2⟩
      obtain ⟨ao3, m3, c3, rfl, HM3⟩ := own_shape hr2
      obtain ⟨rs, ho⟩ := HO.out
      have hlen : (xss.take k ++ List.replicate (xss.length - k) ([] : List Int)).length = xss.length := by simp; omega
      have hst := (ho.below hb2).store (by rw [hlen]) (k := k) (by omega) (own_lo hr2 (by have := hb.size; omega)) (fun i hi => by
        cases hv : (rs.getD i undef).ownBlock with
        | none => exact .inl rfl
        | some q =>
          refine .inr fun hh => ?_
          have a1 := own_block (ho.row i hi) hv
          have a2 := own_block hr2 hh.symm
          omega)
      rw [show (xss.take k ++ List.replicate (xss.length - k) ([] : List Int)).set k (xss.getD k []) = xss.take (k + 1) ++ List.replicate (xss.length - (k + 1)) [] from fill_step xss [] k hlt] at hst
      have ho3 := (ho.below hb2).outer
      rw [hlen] at ho3
      have hc := ho3.cellAt k (by omega)
      have hsome : (w2.cell? ⟨w.heap.size, k, none⟩).isSome = true := by rw [hc]; have := ho.len; simp; omega
      obtain ⟨u, hu⟩ := Option.isSome_iff_exists.1 hsome
      have hf := ho3.frozenAt k
      have hbel2 : Below w.heap.size w w2 := hb.trans (hb2.mono hb.size)
      have HST := Lib.hid hst.1
      have HB2 := Lib.hid hbel2
      clear hst hc hsome hlen ho ho3 hr2 hb2 hbel2
      go_wp2
      go_roundw
      case rel => exact ⟨k + 1, by omega, by go_num, ⟨_, HST.out⟩, HB2.out.setCell (by simp) _⟩
      case measure => simp [intOf]; omega
    · go_wp2
      go_ret
      obtain ⟨rs, ho⟩ := HO.out
      rw [List.take_of_length_le (by omega), show xss.length - k = 0 by omega] at ho
      exact ⟨_, rs, rfl, by simpa using ho, hb⟩

theorem markRows_any (v : Value) (lo hi : Nat) (rs : List Value) (xss : List (List Int)) (k0 : Int) (w : World) (hown : OwnRows w lo v rs xss) (hin : RowsIn lo hi v rs xss.length) (h0 : 0 ≤ k0) (hk0 : k0 + bulk2 xss ≤ 4611686018427387904) :
    Calls Try.prog 29 #[v, .int .i64 k0] w fun e w' => e = .returned (.int .i64 (k0 + bulk2 xss)) ∧ OwnRows w' lo v rs (numRows k0 xss) ∧ Chg lo hi w w' := by
  obtain ⟨ao1, p1, o1, c1, H1⟩ := hown.reads.open
  obtain rfl := H1.val
  have hm := H1.len
  have hlt0 : 0 < xss.length → p1 < w.heap.size := fun h => block_lt_of_cell (H1.cell 0 h).choose_spec.1
  have HOWN := Lib.hid hown
  clear hown
  go_enter Try.func29, Try.ntmps29
  go_wp2
  go_loopw [1, 5] (fun q i wr => ∃ k : Nat, k ≤ xss.length ∧ i = .int .i64 k ∧ q = .int .i64 (k0 + bulk2 (xss.take k)) ∧ Hid (OwnRows wr lo (.slice ao1 xss.length c1) rs ((numRows k0 xss).take k ++ xss.drop k)) ∧ Chg lo hi w wr) (fun _ i _ => xss.length - (intOf i).toNat)
  case atStart => exact ⟨0, Nat.zero_le _, rfl, by simp [bulk2], by simpa [Hid] using HOWN.out, Chg.refl _ _ _⟩
  case round =>
    obtain ⟨k, hk, rfl, rfl, HO, hg⟩ := hrel
    by_cases hlt : k < xss.length
    · have i1 := idx_of Try.underlying22 size1_ints (c := c1) H1.adr hlt .i64
      have ho := HO.out
      have hlen : ((numRows k0 xss).take k ++ xss.drop k).length = xss.length := by simp [numRows_length]; omega
      have hrow : ((numRows k0 xss).take k ++ xss.drop k).getD k [] = xss.getD k [] := by
        have hl : ((numRows k0 xss).take k).length = k := by rw [List.length_take, numRows_length]; omega
        simp [List.getD_eq_getElem?_getD, List.getElem?_append, hl]
      have hrs := ho.len
      have hadr := H1.adr (by omega)
      have hout := sl_of_own ho.outer
      obtain ⟨ao2, p2, o2, c2, hv2, ha2, hc2, hl2⟩ := hout
      have hp : p2 = p1 ∧ o2 = o1 := by
        have e1 := ha2 (by omega)
        rw [Value.slice.injEq] at hv2
        rw [hv2.1, e1] at hadr
        simpa using hadr
      obtain ⟨rfl, rfl⟩ := hp
      have d1 := hc2 k (by omega)
      have hr := ho.row k (by omega)
      rw [hrow] at hr
      have e1 := bulk2_take xss k hlt
      have e2 := bulk2_le xss (k + 1)
      have HC := Lib.hid (markInts_any (rs.getD k undef) lo (xss.getD k []).length (xss.getD k []) (k0 + bulk2 (xss.take k)) wr hr (by omega) (by omega))
      obtain ⟨r, hrr⟩ : ∃ r, r = rs.getD k undef := ⟨_, rfl⟩
      rw [← hrr] at d1 HC
      obtain ⟨q, hq⟩ : ∃ q : Nat, q = bulk2 (xss.take k) := ⟨_, rfl⟩
      rw [← hq] at HC e1 ⊢
      obtain ⟨m, hm'⟩ : ∃ m : Nat, m = (xss.getD k []).length := ⟨_, rfl⟩
      rw [← hm'] at HC e1
      have E1 := Lib.hid e1
      have HQ := Lib.hid hq
      have HM := Lib.hid hm'
      have HR := Lib.hid hrr
      have HLEN := Lib.hid hlen
      have HROW := Lib.hid hrow
      clear hr e1 e2 hq hm' hrr hlen hrow ho hrs hadr hv2 ha2 hc2 hl2
      go_wp2_with fail
      refine HC.out.mono ?_
      rintro e w2 ⟨rfl, ho2, hg2⟩
      have ho := HO.out
      have ht := ho.turned (k := k) (ys := run (k0 + q) m) (w' := w2) (by rw [HLEN.out]; exact hlt) (by rw [HROW.out, run_length, HM.out]) (by rw [← HR.out]; exact hg2) (by rw [run_length, ← HR.out]; exact ho2)
      have es : ((numRows k0 xss).take k ++ xss.drop k).set k (run (k0 + q) m) = (numRows k0 xss).take (k + 1) ++ xss.drop (k + 1) := by
        have hl : ((numRows k0 xss).take k).length = k := by rw [List.length_take, numRows_length]; omega
        have hk2 : k < (numRows k0 xss).length := by rw [numRows_length]; exact hlt
        rw [List.drop_eq_getElem_cons hlt, List.set_append_right _ _ (by omega), hl, Nat.sub_self, List.set_cons_zero, List.take_succ_eq_append_getElem hk2, List.append_assoc]
        have := numRows_getD xss k0 k hlt
        rw [List.getD_eq_getElem?_getD, List.getElem?_eq_getElem hk2] at this
        simp only [Option.getD_some] at this
        rw [this, ← HQ.out, ← HM.out]
        rfl
      rw [es] at ht
      have hg3 : Chg lo hi w w2 := hg.trans (Chg.of_grown hg2 fun g hgg => hin.row k hlt g (by rw [← HR.out]; exact hgg))
      have HT := Lib.hid ht
      have HG := Lib.hid hg3
      clear ht es ho ho2 hg2 hg3 hg
      go_wp2
      go_roundw
      case rel => exact ⟨k + 1, by omega, by go_num, by rw [E1.out]; go_num, HT.out, HG.out⟩
      case measure => simp [intOf]; omega
    · obtain rfl : k = xss.length := by omega
      have ho := HO.out
      rw [List.take_of_length_le (by rw [numRows_length]; omega), List.drop_of_length_le (by omega), List.append_nil] at ho
      have HF := Lib.hid ho
      clear ho
      rw [List.take_length]
      go_wp2
      go_ret
      exact ⟨rfl, HF.out, hg⟩

/-- it returns a new struct of a number and rows -/
def NewAuto (st : Int) (xss : List (List Int)) (w : World) (e : Ending) (w' : World) : Prop :=
  ∃ v rs, e = .returned (.agg #[.int .i64 st, v]) ∧ OwnRows w' w.heap.size v rs xss ∧ Below w.heap.size w w'


end Go.Proofs.Ytocdkeidjocmkaa
