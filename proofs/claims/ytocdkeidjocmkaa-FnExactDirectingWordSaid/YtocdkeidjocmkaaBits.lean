/- Sets as bits: flockOf, flock.set, step of the program; l02Bits, l02Moved, l02Set of the reference. -/
import Derived.Test.YtocdkeidjocmkaaGood
import Derived.Laws.BitsLemmas
import Derived.Lib.SliceRun
import Derived.Test.YtocdkeidjocmkaaNew
import Derived.Test.YtocdkeidjocmkaaHelp1
namespace Go.Proofs.Ytocdkeidjocmkaa
set_option linter.unusedVariables false
set_option linter.unusedSimpArgs false
open Go.ChangeShapes Go.WideShapes Go.ChangeAt Go.RowKit

theorem wrap_i64_in (n : Int) (h : 0 ≤ n) (h2 : n < 9223372036854775808) : IntKind.i64.wrap n = n := by simp [IntKind.wrap, IntKind.bits, IntKind.signed]; omega
theorem wrap_u64_in (n : Int) (h : 0 ≤ n) (h2 : n < 18446744073709551616) : IntKind.u64.wrap n = n := by simp [IntKind.wrap, IntKind.bits, IntKind.signed]; omega
theorem pow_cast (n : Nat) : ((2 : Int) ^ n) = ((2 ^ n : Nat) : Int) := by simp
theorem pow_small {n : Nat} (h : n < 40) : (2 : Nat) ^ n < 1099511627776 := Nat.pow_lt_pow_right (a := 2) (by decide) h
theorem wrap_pow_u64 {n : Nat} (h : n < 40) : IntKind.u64.wrap ((2 : Int) ^ n) = ((2 ^ n : Nat) : Int) := by
  have := pow_small h
  rw [pow_cast]
  generalize 2 ^ n = q at *
  exact wrap_u64_in _ (by omega) (by omega)
theorem wrap_pow_i64 {n : Nat} (h : n < 40) : IntKind.i64.wrap ((2 : Int) ^ n) = ((2 ^ n : Nat) : Int) := by
  have := pow_small h
  rw [pow_cast]
  generalize 2 ^ n = q at *
  exact wrap_i64_in _ (by omega) (by omega)
theorem or_u64 {a b : Nat} (ha : a < 1099511627776) (hb : b < 1099511627776) : bits .or .u64 (a : Int) (b : Int) = ((a ||| b : Nat) : Int) :=
  (bits_nat .u64 40 (by decide) (fun n h0 h1 => wrap_u64_in n h0 (by omega)) a b ha hb).2
theorem or_i64 {a b : Nat} (ha : a < 1099511627776) (hb : b < 1099511627776) : bits .or .i64 (a : Int) (b : Int) = ((a ||| b : Nat) : Int) :=
  (bits_nat .i64 40 (by decide) (fun n h0 h1 => wrap_i64_in n h0 (by omega)) a b ha hb).2
theorem and_u64 {a b : Nat} (ha : a < 1099511627776) (hb : b < 1099511627776) : bits .and .u64 (a : Int) (b : Int) = ((a &&& b : Nat) : Int) :=
  (bits_nat .u64 40 (by decide) (fun n h0 h1 => wrap_u64_in n h0 (by omega)) a b ha hb).1
theorem and_i64 {a b : Nat} (ha : a < 1099511627776) (hb : b < 1099511627776) : bits .and .i64 (a : Int) (b : Int) = ((a &&& b : Nat) : Int) :=
  (bits_nat .i64 40 (by decide) (fun n h0 h1 => wrap_i64_in n h0 (by omega)) a b ha hb).1
theorem or_pow_u64 {a n : Nat} (ha : a < 1024) (hn : n < 10) : bits .or .u64 (a : Int) (IntKind.u64.wrap ((2 : Int) ^ n)) = ((a ||| 2 ^ n : Nat) : Int) := by
  have := pow_small (n := n) (by omega)
  rw [wrap_pow_u64 (by omega), or_u64 (by omega) this]
theorem or_pow_i64 {a n : Nat} (ha : a < 1024) (hn : n < 10) : bits .or .i64 (a : Int) (IntKind.i64.wrap ((2 : Int) ^ n)) = ((a ||| 2 ^ n : Nat) : Int) := by
  have := pow_small (n := n) (by omega)
  rw [wrap_pow_i64 (by omega), or_i64 (by omega) this]
theorem wrap64_i64 (n : Int) : wrap64 n = IntKind.i64.wrap n := by rw [IntKind.wrap_i64]; unfold wrap64; rfl
theorem or_pow_w64 {a n : Nat} (ha : a < 1024) (hn : n < 10) : bits .or .i64 (a : Int) (wrap64 ((2 : Int) ^ n)) = ((a ||| 2 ^ n : Nat) : Int) := by rw [wrap64_i64, or_pow_i64 ha hn]
theorem div_cast (f k : Nat) : (f : Int) / 2 ^ k = ((f / 2 ^ k : Nat) : Int) := by simp
theorem bit_u64 {f k : Nat} (hf : f < 1024) : (bits .and .u64 ((f : Int) / 2 ^ k) 1 == 1) = f.testBit k := by
  have h : f / 2 ^ k < 1099511627776 := Nat.lt_of_le_of_lt (Nat.div_le_self _ _) (by omega)
  rw [div_cast, show (1 : Int) = ((1 : Nat) : Int) by rfl, and_u64 h (by decide), Nat.and_one_is_mod, Nat.testBit_eq_decide_div_mod_eq]
  by_cases e : f / 2 ^ k % 2 = 1
  · simp [e]
  · have : f / 2 ^ k % 2 = 0 := by omega
    simp [this]
theorem bit_i64 {f k : Nat} (hf : f < 1024) : (bits .and .i64 ((f : Int) / 2 ^ k) 1 == 1) = f.testBit k := by
  have h : f / 2 ^ k < 1099511627776 := Nat.lt_of_le_of_lt (Nat.div_le_self _ _) (by omega)
  rw [div_cast, show (1 : Int) = ((1 : Nat) : Int) by rfl, and_i64 h (by decide), Nat.and_one_is_mod, Nat.testBit_eq_decide_div_mod_eq]
  by_cases e : f / 2 ^ k % 2 = 1
  · simp [e]
  · have : f / 2 ^ k % 2 = 0 := by omega
    simp [this]
theorem shr_pos {f k : Nat} (h : ¬ f < 2 ^ k) : (0 : Int) < (f : Int) / 2 ^ k := by
  rw [div_cast]
  have : 0 < f / 2 ^ k := Nat.div_pos (by omega) (Nat.two_pow_pos k)
  omega
theorem shr_zero {f k : Nat} (h : f < 2 ^ k) : (f : Int) / 2 ^ k ≤ 0 := by
  rw [div_cast, Nat.div_eq_of_lt h]
  exact Int.le_refl _
theorem setTo_yes {f k : Nat} (h : f.testBit k = true) : ((setTo f k).map fun (s : Nat) => (s : Int)).map (Value.int .i64) ++ [.int .i64 (k : Int)] = ((setTo f (k + 1)).map fun (s : Nat) => (s : Int)).map (Value.int .i64) := by
  rw [setTo_succ, h]; simp
theorem setTo_no {f k : Nat} (h : f.testBit k = false) : setTo f (k + 1) = setTo f k := by rw [setTo_succ, h]; rfl
theorem setTo_le (f k : Nat) : (setTo f k).length ≤ k := by unfold setTo; exact Nat.le_trans (List.length_filter_le _ _) (by simp)
theorem full_w64 {n : Nat} (h : n < 40) : wrap64 (wrap64 ((2 : Int) ^ n) - 1) = ((2 ^ n - 1 : Nat) : Int) := by
  rw [wrap64_i64, wrap64_i64, wrap_pow_i64 h]
  have := pow_small h
  have := Nat.two_pow_pos n
  rw [wrap_i64_in _ (by omega) (by omega)]
  omega
theorem add_plain' (b o k : Nat) : (⟨b, o, none⟩ : Addr).add k = ⟨b, o + k, none⟩ := by simp [Addr.add_lit]
theorem ret_u64 {a b : Int} (h : a = b) : Ending.returned (.int .u64 a) = .returned (.int .u64 b) := by rw [h]

theorem flockOf_any (v : Value) (zs : List Int) (w : World) (h1 : Ints w v zs) (hz : ∀ z ∈ zs, 0 ≤ z ∧ z < 10) :
    Calls Try.prog 111 #[v] w fun e w' => e = .returned (.int .u64 (bitsOf zs : Int)) ∧ w = w' := by
  obtain ⟨ao1, p1, o1, c1, H1⟩ := h1.open
  have hv := H1.val
  subst hv
  have hm := H1.len
  clear h1
  have HZ := Lib.hid hz
  clear hz
  go_enter Try.func111, Try.ntmps111
  go_wp2
  go_loop [3, 8] (fun o i => ∃ k : Nat, k ≤ zs.length ∧ i = .int .i64 k ∧ o = .int .u64 (bitsOf (zs.take k) : Int)) (fun _ i => zs.length - (intOf i).toNat)
  case atStart => exact ⟨0, Nat.zero_le _, rfl, rfl⟩
  case round =>
    obtain ⟨k, hk, rfl, rfl⟩ := hrel
    by_cases hlt : k < zs.length
    · have i1 := idx_of Try.underlying55 size1_int (c := c1) H1.adr hlt .i64
      obtain ⟨z, hz, d1⟩ := H1.at hlt
      have hzz := HZ.out z (by rw [← hz]; exact mem_getD hlt)
      have HB := Lib.hid (bitsOf_take zs k hlt)
      have HL := Lib.hid (bitsOf_lt (n := 10) (zs := zs.take k) fun y hy => by have := HZ.out y (List.mem_of_mem_take hy); omega)
      obtain ⟨z0, z1⟩ := hzz
      obtain ⟨q, hq⟩ : ∃ q, q = bitsOf (zs.take k) := ⟨_, rfl⟩
      rw [← hq] at HB HL ⊢
      have HQ := Lib.hid hz
      clear hq hz
      go_wp2
      go_round
      case rel => exact ⟨k + 1, by omega, by go_num, by rw [HB.out, HQ.out, or_pow_u64 (by have := HL.out; omega) (by omega)]⟩
      case measure => simp [intOf]; omega
    · obtain rfl : k = zs.length := by omega
      rw [List.take_length]
      go_wp2
      go_ret
      exact ⟨rfl, rfl⟩

theorem l02Bits_any (v : Value) (zs : List Int) (w : World) (h1 : Ints w v zs) (hz : ∀ z ∈ zs, 0 ≤ z ∧ z < 10) :
    Calls Try.prog 50 #[v] w fun e w' => e = .returned (.int .i64 (bitsOf zs : Int)) ∧ w = w' := by
  obtain ⟨ao1, p1, o1, c1, H1⟩ := h1.open
  have hv := H1.val
  subst hv
  have hm := H1.len
  clear h1
  have HZ := Lib.hid hz
  clear hz
  go_enter Try.func50, Try.ntmps50
  go_wp2
  go_loop [3, 4] (fun o i => ∃ k : Nat, k ≤ zs.length ∧ i = .int .i64 k ∧ o = .int .i64 (bitsOf (zs.take k) : Int)) (fun _ i => zs.length - (intOf i).toNat)
  case atStart => exact ⟨0, Nat.zero_le _, rfl, rfl⟩
  case round =>
    obtain ⟨k, hk, rfl, rfl⟩ := hrel
    by_cases hlt : k < zs.length
    · have i1 := idx_of Try.underlying55 size1_int (c := c1) H1.adr hlt .i64
      obtain ⟨z, hz, d1⟩ := H1.at hlt
      have hzz := HZ.out z (by rw [← hz]; exact mem_getD hlt)
      have HB := Lib.hid (bitsOf_take zs k hlt)
      have HL := Lib.hid (bitsOf_lt (n := 10) (zs := zs.take k) fun y hy => by have := HZ.out y (List.mem_of_mem_take hy); omega)
      obtain ⟨z0, z1⟩ := hzz
      obtain ⟨q, hq⟩ : ∃ q, q = bitsOf (zs.take k) := ⟨_, rfl⟩
      rw [← hq] at HB HL ⊢
      have HQ := Lib.hid hz
      clear hq hz
      go_wp2
      go_round
      case rel => exact ⟨k + 1, by omega, by go_num, by rw [HB.out, HQ.out, or_pow_w64 (by have := HL.out; omega) (by omega)]⟩
      case measure => simp [intOf]; omega
    · obtain rfl : k = zs.length := by omega
      rw [List.take_length]
      go_wp2
      go_ret
      exact ⟨rfl, rfl⟩

set_option maxRecDepth 100000 in
theorem flockSet_any (f : Nat) (w : World) (hf : f < 1024) : Calls Try.prog 110 #[.int .u64 f] w (NewInts ((setTo f 10).map fun (s : Nat) => (s : Int)) w) := by
  have HE := Lib.hid (own_empty w w.heap.size (Nat.le_refl _) 2)
  go_enter Try.func110, Try.ntmps110
  go_wp2
  go_loopw [3, 4] (fun u i wr => ∃ k : Nat, k ≤ 10 ∧ i = .int .i64 k ∧ Hid (wr.ownsRow w.heap.size 2 1 u (setTo f k).length (((setTo f k).map fun (s : Nat) => (s : Int)).map (Value.int .i64))) ∧ Below w.heap.size w wr) (fun _ i _ => 10 - (intOf i).toNat)
  case atStart => exact ⟨0, Nat.zero_le _, rfl, HE.out, below_alloc (Below.refl _ _) _⟩
  case round =>
    obtain ⟨k, hk, rfl, HO, hb⟩ := hrel
    have hle := setTo_le f k
    by_cases hlt : f < 2 ^ k
    · have hd := shr_zero hlt
      have HF := Lib.hid (setTo_eq (f := f) (k := k) (m := 10) hlt (by omega))
      clear hlt
      go_wp2
      go_ret
      refine ⟨_, rfl, ?_, hb⟩
      rw [List.length_map, ← HF.out]
      exact HO.out
    · have hd := shr_pos hlt
      have hk9 : k < 10 := by
        rcases Nat.lt_or_ge k 10 with h | h
        · exact h
        · have := Nat.pow_le_pow_right (n := 2) (by decide) h; omega
      clear hlt
      cases hb2 : f.testBit k
      · have ht := bit_u64 (k := k) hf
        rw [hb2] at ht
        have HN := Lib.hid (setTo_no hb2)
        clear hb2
        go_wp2
        go_roundw
        case rel => exact ⟨k + 1, by omega, by go_num, by rw [HN.out]; exact HO.out, hb⟩
        case measure => simp [intOf]; omega
      · have ht := bit_u64 (k := k) hf
        rw [hb2] at ht
        have HN := Lib.hid (setTo_yes hb2)
        clear hb2
        go_wp2_with (at_builtin; refine wpList_push elem_int rfl (.tmp 17) (.tmp 19) rfl w.heap.size rfl HO.out _ rfl rfl (by unfold maxLen; omega) (by omega) hb.size ?_; intro v' w6 hown' hgr hs)
        have hb6 : Below w.heap.size w w6 := Below.grown hb hgr hb.size (fun g hg => (own_block HO.out hg).1)
        have HOW := Lib.hid hown'
        clear hown' hgr hs ht hd
        go_wp2
        go_roundw
        case rel => exact ⟨k + 1, by omega, by go_num, by
          have h := HOW.out
          rw [HN.out] at h
          have hl : (setTo f (k + 1)).length = (setTo f k).length + 1 := by have := h.1; simpa using this
          rw [hl]
          exact h, hb6⟩
        case measure => simp [intOf]; omega

theorem l02Moved_any (v : Value) (zs : List Int) (f : Nat) (w : World) (h1 : Ints w v zs) (hz : ∀ z ∈ zs, 0 ≤ z ∧ z < 10) (hl : zs.length ≤ 10) (hf : f < 1024) :
    Calls Try.prog 115 #[v, .int .i64 f] w fun e w' => e = .returned (.int .i64 (moved zs f : Int)) ∧ w = w' := by
  obtain ⟨ao1, p1, o1, c1, H1⟩ := h1.open
  have hv := H1.val
  subst hv
  have hm := H1.len
  clear h1
  have HZ := Lib.hid hz
  have HM := Lib.hid (moved_eq zs f)
  clear hz
  go_enter Try.func115, Try.ntmps115
  go_wp2
  go_loop [5, 6] (fun o i => ∃ k : Nat, k ≤ zs.length ∧ i = .int .i64 k ∧ o = .int .i64 (movedTo zs f k : Int)) (fun _ i => zs.length - (intOf i).toNat)
  case atStart => exact ⟨0, Nat.zero_le _, rfl, rfl⟩
  case round =>
    obtain ⟨k, hk, rfl, rfl⟩ := hrel
    by_cases hlt : k < zs.length
    · have HB := Lib.hid (movedTo_succ zs f k)
      have ht := bit_i64 (k := k) hf
      cases hb2 : f.testBit k
      · rw [hb2] at ht HB
        clear hb2
        go_wp2
        go_round
        case rel => exact ⟨k + 1, by omega, by go_num, by rw [HB.out]; rfl⟩
        case measure => simp [intOf]; omega
      · rw [hb2] at ht HB
        clear hb2
        have i1 := idx_of Try.underlying55 size1_int (c := c1) H1.adr hlt .i64
        obtain ⟨z, hz, d1⟩ := H1.at hlt
        have hzz := HZ.out z (by rw [← hz]; exact mem_getD hlt)
        have HL := Lib.hid (movedTo_lt (n := 10) (row := zs) (fun y hy => HZ.out y hy) f k hk)
        obtain ⟨z0, z1⟩ := hzz
        obtain ⟨q, hq⟩ : ∃ q, q = movedTo zs f k := ⟨_, rfl⟩
        rw [← hq] at HB HL ⊢
        have HQ := Lib.hid hz
        clear hq hz
        go_wp2
        go_round
        case rel => exact ⟨k + 1, by omega, by go_num, by rw [HB.out, HQ.out, if_pos rfl, or_pow_w64 (by have := HL.out; omega) (by omega)]⟩
        case measure => simp [intOf]; omega
    · obtain rfl : k = zs.length := by omega
      rw [← HM.out]
      go_wp2
      go_ret
      exact ⟨rfl, rfl⟩

theorem autoStep_any (st : Int) (v : Value) (xss : List (List Int)) (n f l : Nat) (w : World) (h1 : Rows2 w v xss) (hg : GoodRows n xss) (hn : n ≤ 10) (hl : l < xss.length) (hf : f < 2 ^ n) :
    Calls Try.prog 123 #[.agg #[.int .i64 st, v], .int .u64 f, .int .i64 l] w (RetB (.int .u64 (moved (xss.getD l []) f : Int)) w) := by
  obtain ⟨ao, b, o, c, H⟩ := h1.open
  have hv := H.val
  subst hv
  have hm := H.len
  have hf2 : f < 1024 := Nat.lt_of_lt_of_le hf (Nat.pow_le_pow_right (by decide) hn)
  obtain ⟨r, dr, hr⟩ := H.cell l hl
  obtain ⟨ao2, b2, o2, c2, H2⟩ := hr.open
  have hv2 := H2.val
  subst hv2
  have i1 := idx_of Try.underlying22 size1_ints (c := c) H.adr hl .i64
  obtain ⟨hrl, hrz⟩ := hg.row hl
  have hset := setTo_eq (f := f) (k := 10) (m := n) hf2 hf
  obtain ⟨zs, hzs⟩ : ∃ zs, zs = xss.getD l [] := ⟨_, rfl⟩
  rw [← hzs] at dr H2 hrl hrz ⊢
  subst hrl
  obtain ⟨ss, hss⟩ : ∃ ss, ss = setTo f 10 := ⟨_, rfl⟩
  have HMV : Hid (moved zs f = bitsOf (ss.map fun s => zs.getD s 0)) := by unfold Hid moved; rw [hss, hset]
  have HSL : ∀ s ∈ ss, s < zs.length := by intro s hs; rw [hss, hset] at hs; exact setTo_lt hs
  have HSl := Lib.hid HSL
  have HRZ := Lib.hid hrz
  have HSET := Lib.hid (flockSet_any f (w.alloc (.cells #[.int .i64 st, .slice ao xss.length c] 44)) hf2)
  rw [← hss] at HSET
  have hsl : ss.length ≤ 10 := by rw [hss]; exact setTo_le f 10
  clear hset hss HSL hrz hzs h1 hr
  go_enter Try.func123, Try.ntmps123
  go_wp2_with fail
  refine HSET.out.mono ?_
  rintro e w2 ⟨vs, rfl, ho, hb⟩
  have hb2 : Below w.heap.size w w2 := below_trans (below_alloc (Below.refl _ _) _) hb
  obtain ⟨ao3, b3, o3, c3, H3⟩ := (ints_of_own ho).open
  have hv3 := H3.val
  rw [List.length_map] at hv3
  subst hv3
  have p1 : w2.cell? ⟨w.heap.size, 1, none⟩ = some (.slice ao xss.length c) := below_cell hb (by go_simp)
  replace dr := below_cell hb2 dr
  have A3 := H3.adr
  rw [List.length_map] at A3
  have C3 := Lib.hid (fun k (hk : k < ss.length) => H3.cell k (by rw [List.length_map]; exact hk))
  have C2 := Lib.hid (fun k (hk : k < zs.length) => below_cell hb2 (H2.cell k hk))
  have A2 := Lib.hid H2.adr
  have HA3 := Lib.hid A3
  clear H3 A3 H2 H ho
  go_wp2
  go_loop [7, 13] (fun q i => ∃ k : Nat, k ≤ ss.length ∧ i = .int .i64 k ∧ q = .int .u64 (bitsOf ((ss.take k).map fun s => zs.getD s 0) : Int)) (fun _ i => ss.length - (intOf i).toNat)
  case atStart => exact ⟨0, Nat.zero_le _, rfl, rfl⟩
  case round =>
    obtain ⟨k, hk, rfl, rfl⟩ := hrel
    by_cases hlt : k < ss.length
    · have i3 := idx_of Try.underlying55 size1_int (c := c3) HA3.out hlt .i64
      have d3 := C3.out k hlt
      have hsk : ss.getD k 0 < zs.length := HSl.out _ (by rw [List.getD_eq_getElem?_getD, List.getElem?_eq_getElem hlt]; exact List.getElem_mem hlt)
      have e3 : (ss.map fun (s : Nat) => (s : Int)).getD k 0 = ((ss.getD k 0 : Nat) : Int) := by simp [List.getD_eq_getElem?_getD, hlt]
      rw [e3] at d3
      have HB : Hid (bitsOf ((ss.take (k + 1)).map fun s => zs.getD s 0) = bitsOf ((ss.take k).map fun s => zs.getD s 0) ||| 2 ^ (zs.getD (ss.getD k 0) 0).toNat) := by
        unfold Hid
        rw [List.take_succ_eq_append_getElem hlt, List.map_append, List.map_singleton, bitsOf_snoc]
        simp [List.getD_eq_getElem?_getD, hlt]
      have HL : Hid (bitsOf ((ss.take k).map fun s => zs.getD s 0) < 2 ^ 10) := by
        refine bitsOf_lt fun z hz => ?_
        obtain ⟨s, hs, rfl⟩ := List.mem_map.1 hz
        have h1 := HRZ.out _ (mem_getD (HSl.out s (List.mem_of_mem_take hs)))
        omega
      obtain ⟨s, hs⟩ : ∃ s, s = ss.getD k 0 := ⟨_, rfl⟩
      rw [← hs] at d3 hsk HB
      have i4 := idx_of Try.underlying55 size1_int (c := c2) A2.out hsk .i64
      have d4 := C2.out s hsk
      have hzz := HRZ.out _ (mem_getD hsk)
      obtain ⟨z, hz⟩ : ∃ z, z = zs.getD s 0 := ⟨_, rfl⟩
      rw [← hz] at d4 hzz HB
      obtain ⟨z0, z1⟩ := hzz
      obtain ⟨q, hq⟩ : ∃ q, q = bitsOf ((ss.take k).map fun s => zs.getD s 0) := ⟨_, rfl⟩
      rw [← hq] at HB HL ⊢
      clear hq hz hs e3
      go_wp2
      go_round
      case rel => exact ⟨k + 1, by omega, by go_num, by rw [HB.out, or_pow_u64 (by have := HL.out; omega) (by omega)]⟩
      case measure => simp [intOf]; omega
    · obtain rfl : k = ss.length := by omega
      rw [List.take_length, ← HMV.out]
      go_wp2
      go_ret
      exact ⟨rfl, hb2⟩


theorem autoAt_nil (st s : Int) (ao : Option Addr) (m c : Nat) (w : World) :
    Calls Try.prog 118 #[.agg #[.int .i64 st, .slice ao m c], .int .i64 s, .slice none 0 0] w (RetB (.int .i64 s) w) := by
  go_enter Try.func118, Try.ntmps118
  go_wp2
  go_loop [1, 11] (fun q i => q = .int .i64 s ∧ i = .int .i64 0) (fun _ _ => 0)
  case atStart => exact ⟨rfl, rfl⟩
  case round =>
    obtain ⟨rfl, rfl⟩ := hrel
    go_wp2
    go_ret
    exact ⟨rfl, below_alloc (Below.refl _ _) _⟩

theorem autoAction_nil (st : Int) (n m c : Nat) (ao : Option Addr) (w : World) (hst : st = n) (hn : n ≤ 10) :
    Calls Try.prog 96 #[.agg #[.int .i64 st, .slice ao m c], .slice none 0 0] w (NewInts ((List.range n).map fun (s : Nat) => (s : Int)) w) := by
  subst hst
  have HE := Lib.hid (own_empty (w.alloc (.cells #[.int .i64 n, .slice ao m c] 44)) (w.heap.size + 1) (by simp) 2)
  have HA := Lib.hid (fun s W => autoAt_nil n s ao m c W)
  go_enter Try.func96, Try.ntmps96
  go_wp2
  go_loopw [5, 10] (fun u i wr => ∃ k : Nat, k ≤ n ∧ i = .int .i64 k ∧ Hid (wr.ownsRow (w.heap.size + 1) 2 1 u k (((List.range k).map fun (s : Nat) => (s : Int)).map (Value.int .i64))) ∧ Below (w.heap.size + 1) (w.alloc (.cells #[.int .i64 n, .slice ao m c] 44)) wr) (fun _ i _ => n - (intOf i).toNat)
  case atStart => exact ⟨0, Nat.zero_le _, rfl, by simpa [Hid] using HE.out, (Below.refl _ _).alloc (by simp) _⟩
  case round =>
    obtain ⟨k, hk, rfl, HO, hb⟩ := hrel
    have p0 : wr.cell? ⟨w.heap.size, 0, none⟩ = some (.int .i64 n) := (hb.cell (by simp)).trans (by go_simp)
    have p1 : wr.cell? ⟨w.heap.size, 1, none⟩ = some (.slice ao m c) := (hb.cell (by simp)).trans (by go_simp)
    have hbs := hb.size
    by_cases hlt : k < n
    · go_wp2_with fail
      refine (HA.out _ _).mono ?_
      rintro e w2 ⟨rfl, hb2⟩
      have HO2 := Lib.hid (own_below HO.out hb2)
      have hbx : Below (w.heap.size + 1) (w.alloc (.cells #[.int .i64 n, .slice ao m c] 44)) w2 := hb.trans (hb2.mono (by simpa using hbs))
      have hsz : w.heap.size + 1 ≤ w2.heap.size := by have := hbx.size; simpa using this
      have HN := Lib.hid (range_map_snoc (fun (s : Nat) => (s : Int)) k)
      clear hb hb2
      go_wp2_with (at_builtin; refine wpList_push elem_int rfl (.tmp 13) (.tmp 18) rfl (w.heap.size + 1) rfl HO2.out _ rfl rfl (by unfold maxLen; omega) (by omega) (by omega) ?_; intro v' w6 hown' hgr hs)
      have hb6 : Below (w.heap.size + 1) (w.alloc (.cells #[.int .i64 n, .slice ao m c] 44)) w6 := Below.grown hbx hgr hsz (fun g hg => (own_block HO2.out hg).1)
      have HOW := Lib.hid hown'
      clear hown' hgr hs
      go_wp2
      go_roundw
      case rel => exact ⟨k + 1, by omega, by go_num, by
        have h := HOW.out
        rw [show ((List.range k).map fun (s : Nat) => (s : Int)).map (Value.int .i64) ++ [.int .i64 (k : Int)] = (((List.range k).map fun (s : Nat) => (s : Int)) ++ [(k : Int)]).map (Value.int .i64) by simp, HN.out] at h
        exact h, hb6⟩
      case measure => simp [intOf]; omega
    · obtain rfl : k = n := by omega
      go_wp2
      go_ret
      refine ⟨_, rfl, by simpa using own_lo HO.out (Nat.le_succ _), (below_alloc (Below.refl _ _) _).trans (hb.mono (by omega))⟩

/- all states -/

set_option maxRecDepth 100000 in
/-- slices.Clone of numbers -/
theorem cloneInts_any (v : Value) (xs : List Int) (w : World) (h1 : Ints w v xs) (hl : xs.length ≤ 1048576) : Calls Try.prog 64 #[v] w (NewInts xs w) := by
  obtain ⟨ao, b, o, c, H⟩ := h1.open
  have hv := H.val
  subst hv
  have q22 : ∀ (w : World) (a : Option Addr) (n c n' c' : Nat), (binOp .eql 55 (.slice a n c) (.slice none n' c')).run Try.prog w = .ok (.bool a.isNone) w := fun w a n c n' c' => Lib.run_eql_slice_nil w _ _ a n c n' c' Try.underlying55
  cases ao with
  | none =>
    have h0 : xs = [] := by
      cases xs with
      | nil => rfl
      | cons x xs => have := H.adr (by simp); cases this
    subst h0
    clear h1 H hl
    go_enter Try.func64, Try.ntmps64
    go_wp2
    go_ret
    exact ⟨_, rfl, World.ownsRow_nil _ _ _ _, Below.refl _ _⟩
  | some a =>
    have HE := Lib.hid (own_empty w w.heap.size (Nat.le_refl _) 2)
    have HC : Hid (∀ j u, (xs.map (Value.int .i64))[j]? = some u → w.cell? (a.add j) = some u) := by
      intro j u hj
      have hjl : j < xs.length := by have := (List.getElem?_eq_some_iff.1 hj).1; simpa using this
      have e := H.adr (by omega)
      injection e with e
      rw [e, add_plain', H.cell j hjl]
      simp [List.getD_eq_getElem?_getD, hjl] at hj ⊢
      exact hj
    clear h1 H
    go_enter Try.func64, Try.ntmps64
    go_wp2_with (at_builtin; refine wpList_appendE elem_int rfl (.tmp 5) (.tmp 6) rfl w.heap.size rfl HE.out a xs.length c (xs.map (Value.int .i64)) rfl (by simp) (fun j u hj => Lib.cell?_alloc_some _ (HC.out j u hj)) (fun u hu => by obtain ⟨x, _, rfl⟩ := List.mem_map.1 hu; rfl) (by unfold maxLen; omega) (by omega) (by simp) ?_; intro v' w1 hown hgr hs)
    go_wp2
    go_ret
    refine ⟨v', rfl, by simpa using hown, ?_⟩
    exact (below_alloc (Below.refl _ w) _).grown hgr (by simp) (fun g hg => (own_block HE.out hg).1)

end Go.Proofs.Ytocdkeidjocmkaa
