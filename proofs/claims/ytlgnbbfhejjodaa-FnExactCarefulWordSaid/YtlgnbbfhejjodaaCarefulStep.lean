/- One step of a set in an automaton with gaps: the program's step and all, the reference's l04Step and l04All. -/
import Derived.Test.YtlgnbbfhejjodaaCarefulLaw
import Derived.Test.YtlgnbbfhejjodaaBits
import Derived.Test.YtlgnbbfhejjodaaSpecPart
namespace Go.Proofs.Ytlgnbbfhejjodaa
set_option linter.unusedVariables false
set_option linter.unusedSimpArgs false
open Go.ChangeShapes Go.WideShapes Go.ChangeAt Go.RowKit

theorem badP_eq {row : List Int} {f n : Nat} {ss : List Nat} (h : setTo f n = ss) : badP row f n = ss.any fun s => decide (row.getD s 0 < 0) := by unfold badP; rw [h]
theorem any_yes {row : List Int} {ss : List Nat} {k : Nat} (hk : k < ss.length) (h : row.getD (ss.getD k 0) 0 < 0) : (ss.any fun s => decide (row.getD s 0 < 0)) = true := by
  rw [List.any_eq_true]
  exact ⟨ss.getD k 0, by rw [List.getD_eq_getElem?_getD, List.getElem?_eq_getElem hk]; exact List.getElem_mem hk, decide_eq_true h⟩
theorem any_no {row : List Int} {ss : List Nat} (h : ∀ j, j < ss.length → ¬ row.getD (ss.getD j 0) 0 < 0) : (ss.any fun s => decide (row.getD s 0 < 0)) = false := by
  rw [List.any_eq_false]
  intro s hs
  obtain ⟨j, hj, rfl⟩ := List.getElem_of_mem hs
  have := h j hj
  rw [show ss.getD j 0 = ss[j] by simp [List.getD_eq_getElem?_getD, hj]] at this
  simpa using this
theorem ret_two {a b : Int} {x y : Bool} {k : IntKind} (h : a = b) (h2 : x = y) : Ending.returned (.tuple #[.int k a, .bool x]) = .returned (.tuple #[.int k b, .bool y]) := by rw [h, h2]

theorem partStep_any (st : Int) (v : Value) (xss : List (List Int)) (n f l : Nat) (w : World) (h1 : Rows2 w v xss) (hg : GoodQ st n xss) (hl : l < xss.length) (hf : f < 2 ^ n) (cd : Int) (ok : Bool) (hy : badR xss l f = true → cd = 0 ∧ ok = false) (hno : badR xss l f = false → cd = (moved (xss.getD l []) f : Int) ∧ ok = true) :
    Calls Try.prog 100 #[.agg #[.int .i64 st, v], .int .u64 f, .int .i64 l] w (RetB (.tuple #[.int .u64 cd, .bool ok]) w) := by
  obtain ⟨ao, b, o, c, H⟩ := h1.open
  have hv := H.val
  subst hv
  have hm := H.len
  have hn := hg.hi
  have hf2 : f < 1024 := Nat.lt_of_lt_of_le hf (Nat.pow_le_pow_right (by decide) hn)
  obtain ⟨r, dr, hr⟩ := H.cell l hl
  obtain ⟨ao2, b2, o2, c2, H2⟩ := hr.open
  have hv2 := H2.val
  subst hv2
  have i1 := idx_of Try.underlying22 size1_ints (c := c) H.adr hl .i64
  obtain ⟨hrl, hrz⟩ := hg.row hl
  have hset := setTo_eq (f := f) (k := 10) (m := n) hf2 hf
  obtain ⟨zs, hzs⟩ : ∃ zs, zs = xss.getD l [] := ⟨_, rfl⟩
  unfold badR at hy hno
  rw [← hzs] at dr H2 hrl hrz hy hno
  subst hrl
  obtain ⟨ss, hss⟩ : ∃ ss, ss = setTo f 10 := ⟨_, rfl⟩
  have HMV : Hid (moved zs f = bitsOf (ss.map fun s => zs.getD s 0)) := by unfold Hid moved; rw [hss, hset]
  have hbe := badP_eq (row := zs) (f := f) (n := zs.length) (ss := ss) (by rw [hss, hset])
  rw [hbe] at hy hno
  have HY := Lib.hid hy
  have HNO := Lib.hid hno
  have HSL : ∀ s ∈ ss, s < zs.length := by intro s hs; rw [hss, hset] at hs; exact setTo_lt hs
  have HSl := Lib.hid HSL
  have HRZ := Lib.hid hrz
  have HSET := Lib.hid (flockSet_any f (w.alloc (.cells #[.int .i64 st, .slice ao xss.length c] 58)) hf2)
  rw [← hss] at HSET
  have hsl : ss.length ≤ 10 := by rw [hss]; exact setTo_le f 10
  clear hset hss HSL hrz hzs h1 hr hy hno hbe hg
  go_enter Try.func100, Try.ntmps100
  go_wp2_with fail
  refine HSET.out.mono ?_
  rintro e w2 ⟨vs, rfl, ho, hb⟩
  have hb2 : Below w.heap.size w w2 := below_trans (below_alloc (Below.refl _ _) _) hb
  obtain ⟨ao3, b3, o3, c3, H3⟩ := (ints_of_own ho).open
  have hv3 := H3.val
  rw [List.length_map] at hv3
  subst hv3
  have p1 : w2.cell? ⟨w.heap.size, 1, none⟩ = some (.slice ao xss.length c) := below_cell hb (by go_simp)
  replace dr := below_cell hb2 dr
  have A3 := H3.adr
  rw [List.length_map] at A3
  have C3 := Lib.hid (fun k (hk : k < ss.length) => H3.cell k (by rw [List.length_map]; exact hk))
  have C2 := Lib.hid (fun k (hk : k < zs.length) => below_cell hb2 (H2.cell k hk))
  have A2 := Lib.hid H2.adr
  have HA3 := Lib.hid A3
  clear H3 A3 H2 H ho
  go_wp2
  go_loop [8, 14] (fun q i => ∃ k : Nat, k ≤ ss.length ∧ i = .int .i64 k ∧ q = .int .u64 (bitsOf ((ss.take k).map fun s => zs.getD s 0) : Int) ∧ Hid (∀ j, j < k → ¬ zs.getD (ss.getD j 0) 0 < 0)) (fun _ i => ss.length - (intOf i).toNat)
  case atStart => exact ⟨0, Nat.zero_le _, rfl, rfl, fun j hj => absurd hj (by omega)⟩
  case round =>
    obtain ⟨k, hk, rfl, rfl, HN⟩ := hrel
    by_cases hlt : k < ss.length
    · have i3 := idx_of Try.underlying32 size1_int (c := c3) HA3.out hlt .i64
      have d3 := C3.out k hlt
      have hsk : ss.getD k 0 < zs.length := HSl.out _ (by rw [List.getD_eq_getElem?_getD, List.getElem?_eq_getElem hlt]; exact List.getElem_mem hlt)
      have e3 : (ss.map fun (s : Nat) => (s : Int)).getD k 0 = ((ss.getD k 0 : Nat) : Int) := by simp [List.getD_eq_getElem?_getD, hlt]
      rw [e3] at d3
      have HB : Hid (bitsOf ((ss.take (k + 1)).map fun s => zs.getD s 0) = bitsOf ((ss.take k).map fun s => zs.getD s 0) ||| 2 ^ (zs.getD (ss.getD k 0) 0).toNat) := by
        unfold Hid
        rw [List.take_succ_eq_append_getElem hlt, List.map_append, List.map_singleton, bitsOf_snoc]
        simp [List.getD_eq_getElem?_getD, hlt]
      have HZ2 := HRZ.out _ (mem_getD hsk)
      by_cases hneg : zs.getD (ss.getD k 0) 0 < 0
      · obtain ⟨rfl, rfl⟩ := HY.out (any_yes hlt hneg)
        obtain ⟨s, hs⟩ : ∃ s, s = ss.getD k 0 := ⟨_, rfl⟩
        rw [← hs] at d3 hsk hneg
        have i4 := idx_of Try.underlying32 size1_int (c := c2) A2.out hsk .i64
        have d4 := C2.out s hsk
        obtain ⟨z, hz⟩ : ∃ z, z = zs.getD s 0 := ⟨_, rfl⟩
        rw [← hz] at d4 hneg
        clear hz hs e3 HZ2 HB HN
        go_wp2
        go_ret2
        exact ⟨rfl, hb2⟩
      have HL : Hid (bitsOf ((ss.take k).map fun s => zs.getD s 0) < 2 ^ 10) := by
        refine bitsOf_lt fun z hz => ?_
        obtain ⟨s, hs, rfl⟩ := List.mem_map.1 hz
        have h1 := HRZ.out _ (mem_getD (HSl.out s (List.mem_of_mem_take hs)))
        obtain ⟨j, hj, rfl⟩ := List.getElem_of_mem hs
        rw [List.length_take] at hj
        have h2 := HN.out j (by omega)
        rw [show ss.getD j 0 = (ss.take k)[j] by simp [List.getD_eq_getElem?_getD, show j < ss.length by omega]] at h2
        omega
      have HN2 : Hid (∀ j, j < k + 1 → ¬ zs.getD (ss.getD j 0) 0 < 0) := fun j hj => by
        rcases Nat.lt_or_ge j k with h | h
        · exact HN.out j h
        · obtain rfl : j = k := by omega
          exact hneg
      obtain ⟨s, hs⟩ : ∃ s, s = ss.getD k 0 := ⟨_, rfl⟩
      rw [← hs] at d3 hsk HB hneg HZ2
      have i4 := idx_of Try.underlying32 size1_int (c := c2) A2.out hsk .i64
      have d4 := C2.out s hsk
      obtain ⟨z, hz⟩ : ∃ z, z = zs.getD s 0 := ⟨_, rfl⟩
      rw [← hz] at d4 HZ2 HB hneg
      obtain ⟨_, z1⟩ := HZ2
      have z0 : 0 ≤ z := by omega
      obtain ⟨q, hq⟩ : ∃ q, q = bitsOf ((ss.take k).map fun s => zs.getD s 0) := ⟨_, rfl⟩
      rw [← hq] at HB HL ⊢
      clear hq hz hs e3 HN
      go_wp2
      go_round
      case rel => exact ⟨k + 1, by omega, by go_num, by rw [HB.out, or_pow_u64 (by have := HL.out; omega) (by omega)], HN2.out⟩
      case measure => simp [intOf]; omega
    · obtain rfl : k = ss.length := by omega
      obtain ⟨rfl, rfl⟩ := HNO.out (any_no HN.out)
      rw [List.take_length, ← HMV.out]
      clear HN
      go_wp2
      go_ret2
      exact ⟨rfl, hb2⟩

theorem full_u64s {n : Nat} (h : n < 40) : IntKind.u64.wrap (IntKind.u64.wrap ((2 : Int) ^ n) - 1) = ((2 ^ n - 1 : Nat) : Int) := by
  rw [wrap_pow_u64 h]
  have h1 := Nat.two_pow_pos n
  have h2 := pow_small h
  rw [wrap_u64_in _ (by omega) (by omega)]
  omega

theorem partAll_any (n m c : Nat) (ao : Option Addr) (w : World) (hn : n ≤ 10) :
    Calls Try.prog 98 #[.agg #[.int .i64 n, .slice ao m c]] w (RetB (.int .u64 ((2 ^ n - 1 : Nat) : Int)) w) := by
  go_enter Try.func98, Try.ntmps98
  go_wp2
  go_ret
  exact ⟨ret_u64 (full_u64s (by omega)), below_alloc (Below.refl _ _) _⟩

theorem l04All_any (n : Nat) (w : World) (hn : n ≤ 10) :
    Calls Try.prog 135 #[.int .i64 n] w fun e w' => e = .returned (.int .i64 ((2 ^ n - 1 : Nat) : Int)) ∧ w = w' := by
  go_enter Try.func135, Try.ntmps135
  go_wp2
  go_ret
  exact ⟨ret_int (full_w64 (by omega)), rfl⟩

theorem bit0_i64 {f k : Nat} (hf : f < 1024) : (bits .and .i64 ((f : Int) / 2 ^ k) 1 == 0) = !f.testBit k := by
  have h := bit_i64 (k := k) hf
  have e : bits .and .i64 ((f : Int) / 2 ^ k) 1 = ((f / 2 ^ k &&& 1 : Nat) : Int) := by
    rw [div_cast]
    exact and_i64 (b := 1) (Nat.lt_of_le_of_lt (Nat.div_le_self _ _) (by omega)) (by omega)
  rw [e] at h ⊢
  rw [← h]
  have h2 := Nat.and_one_is_mod (f / 2 ^ k)
  rw [h2]
  rcases Nat.mod_two_eq_zero_or_one (f / 2 ^ k) with h3 | h3 <;> rw [h3] <;> rfl

theorem l04Step_any (b : Nat) (st : Int) (v : Value) (xss : List (List Int)) (n f l : Nat) (w : World) (d0 : w.cell? ⟨b, 0, none⟩ = some (.int .i64 st)) (d1 : w.cell? ⟨b, 1, none⟩ = some v) (h1 : Rows2 w v xss) (hg : GoodQ st n xss) (hl : l < xss.length) (hf : f < 2 ^ n) (cd : Int) (ok : Bool) (hy : badR xss l f = true → cd = 0 ∧ ok = false) (hno : badR xss l f = false → cd = (moved (xss.getD l []) f : Int) ∧ ok = true) :
    Calls Try.prog 136 #[.pointer (some ⟨b, 0, none⟩), .int .i64 f, .int .i64 l] w (RetQ (.tuple #[.int .i64 cd, .bool ok]) w) := by
  obtain ⟨ao, ab, o, c, H⟩ := h1.open
  have hv := H.val
  subst hv
  have hm := H.len
  have hn := hg.hi
  obtain rfl := hg.st
  have hf2 : f < 1024 := Nat.lt_of_lt_of_le hf (Nat.pow_le_pow_right (by decide) hn)
  obtain ⟨r, dr, hr⟩ := H.cell l hl
  obtain ⟨ao2, b2, o2, c2, H2⟩ := hr.open
  have hv2 := H2.val
  subst hv2
  have i1 := idx_of Try.underlying22 size1_ints (c := c) H.adr hl .i64
  obtain ⟨hrl, hrz⟩ := hg.row hl
  unfold badR at hy hno
  obtain ⟨zs, hzs⟩ : ∃ zs, zs = xss.getD l [] := ⟨_, rfl⟩
  rw [← hzs] at dr H2 hrl hrz hy hno
  subst hrl
  have HY := Lib.hid hy
  have HNO := Lib.hid hno
  have HRZ := Lib.hid hrz
  have HM := Lib.hid (moved_eq zs f)
  have A2 := Lib.hid H2.adr
  have C2 := Lib.hid H2.cell
  clear hzs hrz hy hno h1 hr hg H2 H
  go_enter Try.func136, Try.ntmps136
  go_wp2
  go_loopw [8, 9] (fun q i wr => ∃ k : Nat, k ≤ zs.length ∧ i = .int .i64 k ∧ q = .int .i64 (movedTo zs f k : Int) ∧ Hid (badP zs f k = false) ∧ Qu w wr) (fun _ i _ => zs.length - (intOf i).toNat)
  case atStart => exact ⟨0, Nat.zero_le _, rfl, rfl, rfl, Qu.refl _⟩
  case round =>
    obtain ⟨k, hk, rfl, rfl, HB0, hq⟩ := hrel
    replace d0 := hq.cell d0
    replace d1 := hq.cell d1
    replace dr := hq.cell dr
    by_cases hlt : k < zs.length
    · have HB := Lib.hid (movedTo_succ zs f k)
      have HBS := Lib.hid (badP_succ zs f k)
      have ht := bit0_i64 (k := k) hf2
      cases hb2 : f.testBit k
      · rw [hb2] at ht HB HBS
        clear hb2
        go_wp2
        go_roundw
        case rel => exact ⟨k + 1, by omega, by go_num, by rw [HB.out]; rfl, by rw [HBS.out]; exact HB0.out, hq⟩
        case measure => simp [intOf]; omega
      · rw [hb2] at ht HB HBS
        clear hb2
        have i4 := idx_of Try.underlying32 size1_int (c := c2) A2.out hlt .i64
        have d4 := hq.cell (C2.out k hlt)
        have hzz := HRZ.out _ (mem_getD hlt)
        have HL : Hid (movedTo zs f k < 2 ^ 10) := Nat.lt_of_lt_of_le (movedTo_ltP HRZ.out (Nat.le_of_lt hlt) HB0.out) (Nat.pow_le_pow_right (by decide) hn)
        obtain ⟨z, hz⟩ : ∃ z, z = zs.getD k 0 := ⟨_, rfl⟩
        rw [← hz] at d4 hzz HB HBS
        have HZQ := Lib.hid hz
        clear hz
        obtain ⟨_, z1⟩ := hzz
        by_cases hneg : z < 0
        · have hbad : badP zs f (k + 1) = true := by rw [HBS.out, if_pos rfl, HB0.out, decide_eq_true hneg]; rfl
          have hbad2 := badP_mono hbad (zs.length - (k + 1))
          rw [show k + 1 + (zs.length - (k + 1)) = zs.length by omega] at hbad2
          obtain ⟨rfl, rfl⟩ := HY.out hbad2
          clear hbad hbad2 HBS HB
          go_wp2
          go_ret2
          exact ⟨rfl, hq⟩
        · have z0 : 0 ≤ z := by omega
          have hbad : Hid (badP zs f (k + 1) = false) := by unfold Hid; rw [HBS.out, if_pos rfl, HB0.out, decide_eq_false hneg]; rfl
          obtain ⟨q, hq2⟩ : ∃ q, q = movedTo zs f k := ⟨_, rfl⟩
          rw [← hq2] at HB HL ⊢
          clear hq2
          go_wp2
          go_roundw
          case rel => exact ⟨k + 1, by omega, by go_num, by rw [HB.out, if_pos rfl, or_pow_w64 (by have := HL.out; omega) (by omega)], hbad.out, hq⟩
          case measure => simp [intOf]; omega
    · obtain rfl : k = zs.length := by omega
      obtain ⟨rfl, rfl⟩ := HNO.out HB0.out
      rw [← HM.out]
      clear HB0
      go_wp2
      go_ret2
      exact ⟨rfl, hq⟩

end Go.Proofs.Ytlgnbbfhejjodaa
