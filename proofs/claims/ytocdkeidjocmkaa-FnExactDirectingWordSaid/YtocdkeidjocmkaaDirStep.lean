/- One step of a set in an automaton with choices: the reference's l04Go, the program's step. -/
import Derived.Test.YtocdkeidjocmkaaDirLaw
import Derived.Test.YtocdkeidjocmkaaBits
import Derived.Test.YtocdkeidjocmkaaRefine
import Derived.Test.YtocdkeidjocmkaaCubeMark
namespace Go.Proofs.Ytocdkeidjocmkaa
set_option linter.unusedVariables false
set_option linter.unusedSimpArgs false
open Go.ChangeShapes Go.WideShapes Go.ChangeAt Go.RowKit

theorem l04Go_any (b : Nat) (st : Int) (v : Value) (xss : List (List (List Int))) (n f l : Nat) (w : World) (d0 : w.cell? ⟨b, 0, none⟩ = some (.int .i64 st)) (d1 : w.cell? ⟨b, 1, none⟩ = some v) (h1 : Rows3 w v xss) (hg : GoodC st n xss) (hl : l < xss.length) (hf : f < 2 ^ n) :
    Calls Try.prog 70 #[.pointer (some ⟨b, 0, none⟩), .int .i64 f, .int .i64 l] w (RetQ (.int .i64 (goN (xss.getD l []) f n : Int)) w) := by
  obtain ⟨ao, ab, o, c, H⟩ := h1.open
  have hv := H.val
  subst hv
  have hm := H.len
  have hn := hg.hi
  obtain rfl := hg.st
  have hf2 : f < 1024 := Nat.lt_of_lt_of_le hf (Nat.pow_le_pow_right (by decide) hn)
  obtain ⟨r, dr, hr⟩ := H.cell l hl
  obtain ⟨ao2, b2, o2, c2, H2⟩ := hr.open
  have hv2 := H2.val
  subst hv2
  have i1 := idx_of Try.underlying26 size1_rows (c := c) H.adr hl .i64
  have hrl := hg.row l hl
  have HGO := Lib.hid (fun k (hk : k ≤ n) => hg.go hl f hk)
  have HST := Lib.hid (fun s (hs : s < n) => hg.set hl hs)
  obtain ⟨zs, hzs⟩ : ∃ zs, zs = xss.getD l [] := ⟨_, rfl⟩
  rw [← hzs] at dr H2 hrl HGO HST ⊢
  subst hrl
  have A2 := Lib.hid H2.adr
  have C2 := Lib.hid H2.cell
  have HBI := Lib.hid (fun (u : Value) (ys : List Int) W (hq : Qu w W) (h : Ints w u ys) hz => l02Bits_any u ys W (hq.ints h) hz)
  clear hzs h1 hr hg H2 H
  go_enter Try.func70, Try.ntmps70
  go_wp2
  go_loopw [7, 8] (fun q i wr => ∃ k : Nat, k ≤ zs.length ∧ i = .int .i64 k ∧ q = .int .i64 (goN zs f k : Int) ∧ Qu w wr) (fun _ i _ => zs.length - (intOf i).toNat)
  case atStart => exact ⟨0, Nat.zero_le _, rfl, rfl, Qu.refl _⟩
  case round =>
    obtain ⟨k, hk, rfl, rfl, hq⟩ := hrel
    replace d0 := hq.cell d0
    replace d1 := hq.cell d1
    replace dr := hq.cell dr
    by_cases hlt : k < zs.length
    · have ht := bit_i64 (k := k) hf2
      have HL := Lib.hid (HGO.out k hk)
      cases hb2 : f.testBit k
      · have HB := Lib.hid (goN_no (row := zs) hb2)
        rw [hb2] at ht
        clear hb2
        go_wp2
        go_roundw
        case rel => exact ⟨k + 1, by omega, by go_num, by rw [HB.out], hq⟩
        case measure => simp [intOf]; omega
      · have HB := Lib.hid (goN_yes (row := zs) hb2)
        rw [hb2] at ht
        clear hb2
        have i4 := idx_of Try.underlying22 size1_ints (c := c2) A2.out hlt .i64
        obtain ⟨u, d4, hu⟩ := C2.out k hlt
        replace d4 := hq.cell d4
        have HZ := Lib.hid (HST.out k hlt)
        have HBIT := Lib.hid (HBI.out u _ wr hq hu HZ.out)
        have HBL := Lib.hid (bits10 HZ.out)
        obtain ⟨y, hy⟩ : ∃ y, y = bitsOf (zs.getD k []) := ⟨_, rfl⟩
        rw [← hy] at HBIT HBL HB
        obtain ⟨q, hq2⟩ : ∃ q, q = goN zs f k := ⟨_, rfl⟩
        rw [← hq2] at HB HL ⊢
        clear hq2 hy hu
        go_wp2_with fail
        refine HBIT.out.mono ?_
        rintro e w2 ⟨rfl, rfl⟩
        go_wp2
        go_roundw
        case rel => exact ⟨k + 1, by omega, by go_num, by rw [HB.out, or_i64 (by have := HL.out; have := Nat.pow_le_pow_right (n := 2) (by decide) hn; omega) (by have := HBL.out; omega)], hq⟩
        case measure => simp [intOf]; omega
    · obtain rfl : k = zs.length := by omega
      go_wp2
      go_ret
      exact ⟨rfl, hq⟩

theorem choStep_any (st : Int) (v : Value) (xss : List (List (List Int))) (n f l : Nat) (w : World) (h1 : Rows3 w v xss) (hg : GoodC st n xss) (hl : l < xss.length) (hf : f < 2 ^ n) :
    Calls Try.prog 78 #[.agg #[.int .i64 st, v], .int .u64 f, .int .i64 l] w (RetB (.int .u64 (goN (xss.getD l []) f n : Int)) w) := by
  obtain ⟨ao, b, o, c, H⟩ := h1.open
  have hv := H.val
  subst hv
  have hm := H.len
  have hn := hg.hi
  have hf2 : f < 1024 := Nat.lt_of_lt_of_le hf (Nat.pow_le_pow_right (by decide) hn)
  obtain ⟨r, dr, hr⟩ := H.cell l hl
  obtain ⟨ao2, b2, o2, c2, H2⟩ := hr.open
  have hv2 := H2.val
  subst hv2
  have i1 := idx_of Try.underlying26 size1_rows (c := c) H.adr hl .i64
  have hrl := hg.row l hl
  have hset := setTo_eq (f := f) (k := 10) (m := n) hf2 hf
  have HST := Lib.hid (fun s (hs : s < n) => hg.set hl hs)
  obtain ⟨ss, hss⟩ : ∃ ss, ss = setTo f 10 := ⟨_, rfl⟩
  have HG2 : Hid (goN (xss.getD l []) f n = goL (xss.getD l []) ss) := by unfold Hid goN; rw [hss, hset]
  have HSL : ∀ s ∈ ss, s < n := by intro s hs; rw [hss, hset] at hs; exact setTo_lt hs
  have HGL : Hid (∀ k, goL (xss.getD l []) (ss.take k) < 1024) := fun k => goL_lt (n := 10) fun s hs z hz => by
    have := HST.out s (HSL s (List.mem_of_mem_take hs)) z hz
    omega
  obtain ⟨zs, hzs⟩ : ∃ zs, zs = xss.getD l [] := ⟨_, rfl⟩
  rw [← hzs] at dr H2 hrl HST HG2 HGL ⊢
  subst hrl
  have HSl := Lib.hid HSL
  have HSET := Lib.hid (flockSet_any f (w.alloc (.cells #[.int .i64 st, .slice ao xss.length c] 28)) hf2)
  rw [← hss] at HSET
  have hsl : ss.length ≤ 10 := by rw [hss]; exact setTo_le f 10
  have HFL := Lib.hid (fun (u : Value) (ys : List Int) W (hb : Below w.heap.size w W) (h : Ints w u ys) hz => flockOf_any u ys W (h.kept hb) hz)
  clear hset hss HSL hzs h1 hr hg
  go_enter Try.func78, Try.ntmps78
  go_wp2_with fail
  refine HSET.out.mono ?_
  rintro e w2 ⟨vs, rfl, ho, hb⟩
  have hb2 : Below w.heap.size w w2 := below_trans (below_alloc (Below.refl _ _) _) hb
  obtain ⟨ao3, b3, o3, c3, H3⟩ := (ints_of_own ho).open
  have hv3 := H3.val
  rw [List.length_map] at hv3
  subst hv3
  have p1 : w2.cell? ⟨w.heap.size, 1, none⟩ = some (.slice ao xss.length c) := below_cell hb (by go_simp)
  replace dr := below_cell hb2 dr
  have A3 := H3.adr
  rw [List.length_map] at A3
  have C3 := Lib.hid (fun k (hk : k < ss.length) => H3.cell k (by rw [List.length_map]; exact hk))
  have C2 := Lib.hid H2.cell
  have A2 := Lib.hid H2.adr
  have HA3 := Lib.hid A3
  clear H3 A3 H2 H ho
  go_wp2
  go_loop [7, 13] (fun q i => ∃ k : Nat, k ≤ ss.length ∧ i = .int .i64 k ∧ q = .int .u64 (goL zs (ss.take k) : Int)) (fun _ i => ss.length - (intOf i).toNat)
  case atStart => exact ⟨0, Nat.zero_le _, rfl, rfl⟩
  case round =>
    obtain ⟨k, hk, rfl, rfl⟩ := hrel
    by_cases hlt : k < ss.length
    · have i3 := idx_of Try.underlying55 size1_int (c := c3) HA3.out hlt .i64
      have d3 := C3.out k hlt
      have hsk : ss.getD k 0 < zs.length := HSl.out _ (by rw [List.getD_eq_getElem?_getD, List.getElem?_eq_getElem hlt]; exact List.getElem_mem hlt)
      have e3 : (ss.map fun (s : Nat) => (s : Int)).getD k 0 = ((ss.getD k 0 : Nat) : Int) := by simp [List.getD_eq_getElem?_getD, hlt]
      rw [e3] at d3
      have HB := Lib.hid (goL_take zs ss k hlt)
      have HL := Lib.hid (HGL.out k)
      obtain ⟨s, hs⟩ : ∃ s, s = ss.getD k 0 := ⟨_, rfl⟩
      rw [← hs] at d3 hsk HB
      have i4 := idx_of Try.underlying22 size1_ints (c := c2) A2.out hsk .i64
      obtain ⟨u, d4, hu⟩ := C2.out s hsk
      replace d4 := below_cell hb2 d4
      have HZ := Lib.hid (HST.out s hsk)
      have HBIT := Lib.hid (HFL.out u _ w2 hb2 hu HZ.out)
      have HBL := Lib.hid (bits10 HZ.out)
      obtain ⟨y, hy⟩ : ∃ y, y = bitsOf (zs.getD s []) := ⟨_, rfl⟩
      rw [← hy] at HBIT HBL HB
      obtain ⟨q, hq2⟩ : ∃ q, q = goL zs (ss.take k) := ⟨_, rfl⟩
      rw [← hq2] at HB HL ⊢
      clear hq2 hy hu hs e3
      go_wp2_with fail
      refine HBIT.out.mono ?_
      rintro e w3 ⟨rfl, rfl⟩
      go_wp2
      go_round
      case rel => exact ⟨k + 1, by omega, by go_num, by rw [HB.out, or_u64 (by have := HL.out; omega) (by have := HBL.out; omega)]⟩
      case measure => simp [intOf]; omega
    · obtain rfl : k = ss.length := by omega
      rw [List.take_length]
      go_wp2
      go_ret
      exact ⟨ret_u64 (by rw [HG2.out]), hb2⟩

end Go.Proofs.Ytocdkeidjocmkaa
