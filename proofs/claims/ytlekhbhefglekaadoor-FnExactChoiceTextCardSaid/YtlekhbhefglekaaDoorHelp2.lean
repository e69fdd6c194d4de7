/- The laws' own helpers that make or write memory: toInt64S, toInt64SS, markInt64S, markInt64SS. One contract each. -/
import Derived.Test.YtlekhbhefglekaaDoorHelp1
import Derived.Test.YtlekhbhefglekaaDoorOwn
namespace Go.Proofs.YtlekhbhefglekaaDoor
set_option linter.unusedVariables false
set_option linter.unusedSimpArgs false
open Go.ChangeShapes Go.WideShapes Go.ChangeAt Go.RowKit

theorem info_int : (Tryd.prog.info? 2).map (fun i => (i.zero, i.size, i.bytes)) = some (some (.int .i64 0), 1, 8) := by kernel_rfl
theorem info_ints : (Tryd.prog.info? 40).map (fun i => (i.zero, i.size, i.bytes)) = some (some (.slice none 0 0), 1, 24) := by kernel_rfl

theorem toInts_any (v1 : Value) (xs : List Int) (w : World) (h1 : Ints w v1 xs) (hs : xs.length ≤ 1048576) :
    Calls Tryd.prog 40 #[v1] w (NewInts xs w) := by
  obtain ⟨ao1, p1, o1, c1, H1⟩ := h1.open
  obtain rfl := H1.val
  obtain ⟨i0, hi, hz0, hz1, hz2⟩ := info_parts info_int
  go_enter Tryd.func40, Tryd.ntmps40
  go_wp2_with (at_make; refine wpList_make_full _ rfl _ _ 40 rfl w.heap.size 2 i0 (.int .i64 0) 1 Tryd.underlying40 hi hz0 hz1 .i64 .i64 xs.length xs.length xs.length rfl rfl rfl rfl (by rw [hz2]; omega) (by unfold maxLen; omega) (Nat.le_refl _) ?_; intro w1 hown hgr)
  have hs0 : (madeCells (Value.cells (.int .i64 0)) (xs.length * 1)).toList = (xs.take 0 ++ List.replicate (xs.length - 0) (0 : Int)).map (Value.int .i64) := by
    show (madeCells #[Value.int .i64 0] (xs.length * 1)).toList = _
    rw [toList_madeCells_one]; simp
  rw [hs0] at hown
  have hbel : Below w.heap.size w w1 := Below.grown (Below.refl _ _) hgr (Nat.le_refl _) (by intro k h; cases h)
  have HOWN := Lib.hid hown
  clear hown hs0
  go_loopw [4] (fun i wr => ∃ k : Nat, k ≤ xs.length ∧ i = .int .i64 k ∧ Hid (wr.ownsRow w.heap.size 2 1 (.slice (some ⟨w.heap.size, 0, none⟩) xs.length xs.length) xs.length ((xs.take k ++ List.replicate (xs.length - k) (0 : Int)).map (Value.int .i64))) ∧ Below w.heap.size w wr) (fun i _ => xs.length - (intOf i).toNat)
  case atStart => exact ⟨0, Nat.zero_le _, rfl, HOWN, hbel⟩
  case round =>
    obtain ⟨k, hk, rfl, HO, hb⟩ := hrel
    by_cases hlt : k < xs.length
    · have i1 := idx_of Tryd.underlying40 size1_int (c := c1) H1.adr hlt .i64
      obtain ⟨z, hz, d1⟩ := (h1.kept hb).open.choose_spec.choose_spec.choose_spec.choose_spec.at hlt
      have d1' := (hb.cell (block_lt_of_cell (H1.cell k hlt))).trans (H1.cell k hlt)
      rw [hz] at d1'
      have hc := HO.out.cellAt k (by omega)
      have hf := HO.out.frozenAt k
      have hst := HO.out.stored k (.int .i64 z)
      have e1 : ((xs.take k ++ List.replicate (xs.length - k) (0 : Int)).map (Value.int .i64)).set k (.int .i64 z) = (xs.take (k + 1) ++ List.replicate (xs.length - (k + 1)) (0 : Int)).map (Value.int .i64) := by
        rw [← hz, ← fill_step xs 0 k hlt, List.map_set]
      rw [e1] at hst
      have hsome : (wr.cell? ⟨w.heap.size, k, none⟩).isSome = true := by rw [hc]; simp; omega
      obtain ⟨u, hu⟩ := Option.isSome_iff_exists.1 hsome
      clear hsome
      have HST := Lib.hid hst
      clear hst e1 hz hc d1
      go_wp2
      go_roundw
      case rel => exact ⟨k + 1, by omega, by go_num, HST.out.1, hb.setCell (by simp) _⟩
      case measure => simp [intOf]; omega
    · go_wp2
      go_ret
      refine ⟨_, rfl, ?_, hb⟩
      have := HO.out
      rw [List.take_of_length_le (by omega), show xs.length - k = 0 by omega] at this
      simpa using this


theorem toRows_any (v1 : Value) (xss : List (List Int)) (w : World) (h1 : Rows2 w v1 xss) (hs : xss.length + bulk2 xss ≤ 1048576) :
    Calls Tryd.prog 24 #[v1] w (NewRows xss w) := by
  obtain ⟨ao1, p1, o1, c1, H1⟩ := h1.open
  obtain rfl := H1.val
  have hs1 : xss.length ≤ 1048576 := by omega
  have HS := Lib.hid hs
  clear hs
  obtain ⟨i0, hi, hz0, hz1, hz2⟩ := info_parts info_ints
  go_enter Tryd.func24, Tryd.ntmps24
  go_wp2_with (at_make; refine wpList_make_full _ rfl _ _ 39 rfl w.heap.size 40 i0 (.slice none 0 0) 1 Tryd.underlying39 hi hz0 hz1 .i64 .i64 xss.length xss.length xss.length rfl rfl rfl rfl (by rw [hz2]; omega) (by unfold maxLen; omega) (Nat.le_refl _) ?_; intro w1 hown hgr)
  have hs0 : (madeCells (Value.cells (.slice none 0 0)) (xss.length * 1)).toList = List.replicate xss.length (.slice none 0 0) := by
    show (madeCells #[Value.slice none 0 0] (xss.length * 1)).toList = _
    rw [toList_madeCells_one]; simp
  rw [hs0] at hown
  have hbel : Below w.heap.size w w1 := Below.grown (Below.refl _ _) hgr (Nat.le_refl _) (by intro k h; cases h)
  have hown2 : OwnRows w1 w.heap.size (.slice (some ⟨w.heap.size, 0, none⟩) xss.length xss.length) (List.replicate xss.length (.slice none 0 0)) (xss.take 0 ++ List.replicate (xss.length - 0) []) := by
    refine ⟨by simpa using hown, fun k hk => ?_, fun i j _ hj => ?_⟩
    · have hk' : k < xss.length := by simpa using hk
      rw [show (List.replicate xss.length (Value.slice none 0 0)).getD k undef = .slice none 0 0 by simp [List.getD_eq_getElem?_getD, hk']]
      rw [show (xss.take 0 ++ List.replicate (xss.length - 0) ([] : List Int)).getD k [] = [] by simp [List.getD_eq_getElem?_getD, hk']]
      exact World.ownsRow_nil _ _ _ _
    · have hj' : j < xss.length := by simpa using hj
      left
      rw [show (List.replicate xss.length (Value.slice none 0 0)).getD i undef = .slice none 0 0 by simp [List.getD_eq_getElem?_getD, show i < xss.length by omega]]
      rfl
  have HOWN := Lib.hid hown2
  clear hown hs0 hown2
  go_loopw [4] (fun i wr => ∃ k : Nat, k ≤ xss.length ∧ i = .int .i64 k ∧ Hid (∃ rs, OwnRows wr w.heap.size (.slice (some ⟨w.heap.size, 0, none⟩) xss.length xss.length) rs (xss.take k ++ List.replicate (xss.length - k) [])) ∧ Below w.heap.size w wr) (fun i _ => xss.length - (intOf i).toNat)
  case atStart => exact ⟨0, Nat.zero_le _, rfl, ⟨_, HOWN.out⟩, hbel⟩
  case round =>
    obtain ⟨k, hk, rfl, HO, hb⟩ := hrel
    by_cases hlt : k < xss.length
    · have i1 := idx_of Tryd.underlying39 size1_ints (c := c1) H1.adr hlt .i64
      obtain ⟨r, d1, hr⟩ := H1.cell k hlt
      replace d1 := (hb.cell (block_lt_of_cell d1)).trans d1
      replace hr := hr.kept hb
      have e1 := bulk2_take xss k hlt
      have e2 := bulk2_le xss (k + 1)
      have HC := Lib.hid (toInts_any r (xss.getD k []) wr hr (by have := HS.out; omega))
      clear hr e1 e2
      go_wp2_with fail
      refine HC.out.mono ?_
      rintro e w2 ⟨r2, rfl, hr2, hb2⟩
      obtain ⟨ao3, m3, c3, rfl, HM3⟩ := own_shape hr2
      obtain ⟨rs, ho⟩ := HO.out
      have hlen : (xss.take k ++ List.replicate (xss.length - k) ([] : List Int)).length = xss.length := by simp; omega
      have hst := (ho.below hb2).store (by rw [hlen]) (k := k) (by omega) (own_lo hr2 (by have := hb.size; omega)) (fun i hi => by
        cases hv : (rs.getD i undef).ownBlock with
        | none => exact .inl rfl
        | some q =>
          refine .inr fun hh => ?_
          have a1 := own_block (ho.row i hi) hv
          have a2 := own_block hr2 hh.symm
          omega)
      rw [show (xss.take k ++ List.replicate (xss.length - k) ([] : List Int)).set k (xss.getD k []) = xss.take (k + 1) ++ List.replicate (xss.length - (k + 1)) [] from fill_step xss [] k hlt] at hst
      have ho3 := (ho.below hb2).outer
      rw [hlen] at ho3
      have hc := ho3.cellAt k (by omega)
      have hsome : (w2.cell? ⟨w.heap.size, k, none⟩).isSome = true := by rw [hc]; have := ho.len; simp; omega
      obtain ⟨u, hu⟩ := Option.isSome_iff_exists.1 hsome
      have hf := ho3.frozenAt k
      have hbel2 : Below w.heap.size w w2 := hb.trans (hb2.mono hb.size)
      have HST := Lib.hid hst.1
      have HB2 := Lib.hid hbel2
      clear hst hc hsome hlen ho ho3 hr2 hb2 hbel2
      go_wp2
      go_roundw
      case rel => exact ⟨k + 1, by omega, by go_num, ⟨_, HST.out⟩, HB2.out.setCell (by simp) _⟩
      case measure => simp [intOf]; omega
    · go_wp2
      go_ret
      obtain ⟨rs, ho⟩ := HO.out
      rw [List.take_of_length_le (by omega), show xss.length - k = 0 by omega] at ho
      exact ⟨_, rs, rfl, by simpa using ho, hb⟩


/-- it returns a new struct of a number and rows -/
def NewAuto (st : Int) (xss : List (List Int)) (w : World) (e : Ending) (w' : World) : Prop :=
  ∃ v rs, e = .returned (.agg #[.int .i64 st, v]) ∧ OwnRows w' w.heap.size v rs xss ∧ Below w.heap.size w w'


end Go.Proofs.YtlekhbhefglekaaDoor
