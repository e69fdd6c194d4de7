/- The laws' own helpers that only read: eqInt64S, eqInt64SS, szInt64S, szInt64SS, heldInt64S, heldInt64SS. One contract each. -/
import Derived.Test.YtocdkeidjocmkaaRows
import Derived.Test.YtocdkeidjocmkaaBase
namespace Go.Proofs.Ytocdkeidjocmkaa
set_option linter.unusedVariables false
set_option linter.unusedSimpArgs false
open Go.ChangeShapes Go.WideShapes Go.ChangeAt Go.RowKit

theorem size1_int : ∀ w, (sizeOf 2).run Try.prog w = .ok 1 w := fun _ => by kernel_rfl
theorem size1_ints : ∀ w, (sizeOf 55).run Try.prog w = .ok 1 w := fun _ => by kernel_rfl
theorem size1_rows : ∀ w, (sizeOf 22).run Try.prog w = .ok 1 w := fun _ => by kernel_rfl

/-- it returns v, and the world has at most drawn -/
def RetQ (v : Value) (w : World) (e : Ending) (w' : World) : Prop := e = .returned v ∧ Qu w w'

theorem ret_bool {a b : Bool} (h : a = b) : Ending.returned (.bool a) = .returned (.bool b) := by rw [h]
theorem ret_int {k : IntKind} {a b : Int} (h : a = b) : Ending.returned (.int k a) = .returned (.int k b) := by rw [h]
theorem list_ext {xs ys : List Int} (hl : xs.length = ys.length) (h : ∀ j, j < xs.length → xs.getD j 0 = ys.getD j 0) : xs = ys :=
  List.ext_getElem hl fun j h1 h2 => by simpa [List.getD_eq_getElem?_getD, h1, h2] using h j h1
theorem rows_ext {xs ys : List (List Int)} (hl : xs.length = ys.length) (h : ∀ j, j < xs.length → xs.getD j [] = ys.getD j []) : xs = ys :=
  List.ext_getElem hl fun j h1 h2 => by simpa [List.getD_eq_getElem?_getD, h1, h2] using h j h1

theorem _root_.Go.Calls.quiet_of_same' {P : Program} {f : FuncId} {args : Array Value} {w : World} {n : Nat} {v : Value} (h : Calls P f args (w.drewN n) fun e w' => e = .returned v ∧ w.drewN n = w') : Calls P f args (w.drewN n) fun e w'' => e = .returned v ∧ ∃ m, w'' = w.drewN m :=
  h.mono fun _ _ ⟨he, hm⟩ => ⟨he, n, hm.symm⟩

theorem eqInts_any (v1 v2 : Value) (xs ys : List Int) (w : World) (h1 : Ints w v1 xs) (h2 : Ints w v2 ys) :
    Calls Try.prog 33 #[v1, v2] w (RetQ (.bool (decide (xs = ys))) w) := by
  obtain ⟨ao1, p1, o1, c1, H1⟩ := h1.open
  obtain ⟨ao2, p2, o2, c2, H2⟩ := h2.open
  obtain rfl := H1.val
  obtain rfl := H2.val
  clear h1 h2
  have hm := H1.len
  by_cases hl : ys.length = xs.length
  · have A2 := H2.adr
    rw [hl] at A2 ⊢
    have HL := Lib.hid hl
    clear hl
    go_enter Try.func33, Try.ntmps33
    go_wp2
    go_loopw [5] (fun i wr => ∃ k : Nat, k ≤ xs.length ∧ i = .int .i64 k ∧ Hid (∀ j, j < k → xs.getD j 0 = ys.getD j 0) ∧ ∃ n, wr = w.drewN n) (fun i _ => xs.length - (intOf i).toNat)
    case atStart => exact ⟨0, Nat.zero_le _, rfl, fun j hj => absurd hj (by omega), 0, rfl⟩
    case round =>
      obtain ⟨k, hk, rfl, hpre, n, rfl⟩ := hrel
      by_cases hlt : k < xs.length
      · have i1 := idx_of Try.underlying55 size1_int (c := c1) H1.adr hlt .i64
        have i2 := idx_of Try.underlying55 size1_int (c := c2) A2 hlt .i64
        obtain ⟨z1, hz1, d1⟩ := H1.at hlt
        obtain ⟨z2, hz2, d2⟩ := H2.at (by rw [HL.out]; exact hlt)
        have HZ1 := Lib.hid hz1
        have HZ2 := Lib.hid hz2
        clear hz1 hz2 A2
        by_cases hz : z1 = z2
        · have hb : (z1 != z2) = false := by simp [hz]
          have HZ := Lib.hid hz
          clear hz
          go_wp2
          go_quiet (fail)
          go_wp2
          go_roundw
          case rel => exact ⟨k + 1, by omega, by go_num, fun j hj => by
            rcases Nat.lt_or_ge j k with h | h
            · exact hpre.out j h
            · obtain rfl : j = k := by omega
              rw [HZ1.out, HZ2.out, HZ.out], _, rfl⟩
          case measure => simp [intOf]; omega
        · have hb : (z1 != z2) = true := by simp [hz]
          have HZ := Lib.hid hz
          clear hz
          go_wp2
          go_quiet (fail)
          go_wp2
          go_ret
          exact ⟨ret_bool (decide_eq_false fun h => HZ.out (by rw [← HZ1.out, ← HZ2.out, h])).symm, n + nq, by simp⟩
      · go_wp2
        go_ret
        exact ⟨ret_bool (decide_eq_true (list_ext HL.out.symm fun j hj => hpre.out j (by omega))).symm, _, rfl⟩
  · have hb : ((xs.length : Int) != ys.length) = true := by simp; omega
    have HL := Lib.hid hl
    clear hl
    go_enter Try.func33, Try.ntmps33
    go_wp2
    go_ret
    exact ⟨ret_bool (decide_eq_false fun h => HL.out (by rw [h])).symm, 0, rfl⟩

theorem szInts_any (ao : Option Addr) (n c : Nat) (l : Int) (w : World) (h0 : 0 ≤ l) (hl : l ≤ 1048576) (hn : n ≤ 9223372036854775807) :
    Calls Try.prog 79 #[.slice ao n c, .int .i64 l] w fun e w' => e = .returned (.int .i64 (if l < n then -1 else l - n)) ∧ w = w' := by
  by_cases h : l < n
  · go_enter Try.func79, Try.ntmps79
    go_wp2
    go_ret
    exact ⟨rfl, rfl⟩
  · go_enter Try.func79, Try.ntmps79
    go_wp2
    go_ret
    exact ⟨rfl, rfl⟩

/-- the size's answer: -1, or what is left -/
def SzPost (l0 : Int) (total : Nat) (w : World) (e : Ending) (w' : World) : Prop :=
  Qu w w' ∧ ∃ r : Int, e = .returned (.int .i64 r) ∧ (r = -1 ∨ (0 ≤ r ∧ r + total = l0))

theorem szRows_any (v : Value) (zss : List (List Int)) (w : World) (l0 : Int) (h1 : Rows2 w v zss) (h0 : 0 ≤ l0) (hl0 : l0 ≤ 1048576) :
    Calls Try.prog 40 #[v, .int .i64 l0] w (SzPost l0 (zss.length + bulk2 zss) w) := by
  obtain ⟨ao1, p1, o1, c1, H1⟩ := h1.open
  obtain rfl := H1.val
  clear h1
  have hm := H1.len
  by_cases h : l0 < zss.length
  · go_enter Try.func40, Try.ntmps40
    go_wp2
    go_ret
    exact ⟨⟨0, rfl⟩, _, rfl, .inl rfl⟩
  · go_enter Try.func40, Try.ntmps40
    go_wp2
    go_loopw [1, 5] (fun l i wr => ∃ (k : Nat) (q : Int), k ≤ zss.length ∧ i = .int .i64 k ∧ l = .int .i64 q ∧ 0 ≤ q ∧ q ≤ 1048576 ∧ Hid (q + zss.length + bulk2 (zss.take k) = l0) ∧ ∃ n, wr = w.drewN n) (fun _ i _ => zss.length - (intOf i).toNat)
    case atStart => exact ⟨0, l0 - zss.length, Nat.zero_le _, rfl, by go_num, by omega, by omega, by simp [Hid, bulk2], 0, rfl⟩
    case round =>
      obtain ⟨k, q, hk, rfl, rfl, hq0, hq1, hpre, n, rfl⟩ := hrel
      by_cases hlt : k < zss.length
      · have i1 := idx_of Try.underlying22 size1_ints (c := c1) H1.adr hlt .i64
        obtain ⟨r, d1, hr⟩ := H1.cell k hlt
        obtain ⟨ao2, p2, o2, c2, H2⟩ := hr.open
        obtain rfl := H2.val
        have hm2 := H2.len
        have HB := Lib.hid (bulk2_take zss k hlt)
        obtain ⟨m, hm3⟩ : ∃ m, m = (zss.getD k []).length := ⟨_, rfl⟩
        rw [← hm3] at d1 hm2 HB
        have HM := Lib.hid hm3
        clear hm3 H2 hr
        by_cases hq : q < m
        · go_wp2_with fail
          refine (szInts_any _ _ _ _ _ hq0 hq1 hm2).mono ?_
          rw [if_pos (by omega)]
          rintro e w' ⟨rfl, rfl⟩
          go_wp2
          go_ret
          exact ⟨⟨n, rfl⟩, _, rfl, .inl rfl⟩
        · go_wp2_with fail
          refine (szInts_any _ _ _ _ _ hq0 hq1 hm2).mono ?_
          rw [if_neg (by omega)]
          rintro e w' ⟨rfl, rfl⟩
          go_wp2
          go_roundw
          case rel => exact ⟨k + 1, q - m, by omega, by go_num, rfl, by omega, by omega, by have a := hpre.out; have b := HB.out; unfold Hid; omega, n, rfl⟩
          case measure => simp [intOf]; omega
      · go_wp2
        go_ret
        refine ⟨⟨n, rfl⟩, _, rfl, .inr ⟨hq0, ?_⟩⟩
        have a := hpre.out
        rw [List.take_of_length_le (by omega)] at a
        omega

theorem eqRows_any (v1 v2 : Value) (xs ys : List (List Int)) (w : World) (h1 : Rows2 w v1 xs) (h2 : Rows2 w v2 ys) :
    Calls Try.prog 28 #[v1, v2] w (RetQ (.bool (decide (xs = ys))) w) := by
  obtain ⟨ao1, p1, o1, c1, H1⟩ := h1.open
  obtain ⟨ao2, p2, o2, c2, H2⟩ := h2.open
  obtain rfl := H1.val
  obtain rfl := H2.val
  clear h1 h2
  have hm := H1.len
  by_cases hl : ys.length = xs.length
  · have A2 := H2.adr
    rw [hl] at A2 ⊢
    have HL := Lib.hid hl
    clear hl
    go_enter Try.func28, Try.ntmps28
    go_wp2
    go_loopw [5] (fun i wr => ∃ k : Nat, k ≤ xs.length ∧ i = .int .i64 k ∧ Hid (∀ j, j < k → xs.getD j [] = ys.getD j []) ∧ Qu w wr) (fun i _ => xs.length - (intOf i).toNat)
    case atStart => exact ⟨0, Nat.zero_le _, rfl, fun j hj => absurd hj (by omega), Qu.refl _⟩
    case round =>
      obtain ⟨k, hk, rfl, hpre, hq⟩ := hrel
      by_cases hlt : k < xs.length
      · have i1 := idx_of Try.underlying22 size1_ints (c := c1) H1.adr hlt .i64
        have i2 := idx_of Try.underlying22 size1_ints (c := c2) A2 hlt .i64
        obtain ⟨r1, d1, hr1⟩ := H1.cell k hlt
        obtain ⟨r2, d2, hr2⟩ := H2.cell k (by rw [HL.out]; exact hlt)
        replace d1 := hq.cell d1
        replace d2 := hq.cell d2
        replace hr1 := hq.ints hr1
        replace hr2 := hq.ints hr2
        clear A2
        by_cases hz : xs.getD k [] = ys.getD k []
        · have hb : decide (xs.getD k [] = ys.getD k []) = true := decide_eq_true hz
          obtain ⟨bb, hbb⟩ : ∃ bb, bb = decide (xs.getD k [] = ys.getD k []) := ⟨_, rfl⟩
          have C := fun n => eqInts_any r1 r2 _ _ (wr.drewN n) (hr1.drewN n) (hr2.drewN n)
          rw [hb] at C
          have HZ := Lib.hid hz
          have HC := Lib.hid C
          clear hz hb C hbb hr1 hr2
          go_wp2
          go_quiet ((go_at_call 33; exact Calls.quiet_of (HC.out _)))
          go_wp2
          go_roundw
          case rel => exact ⟨k + 1, by omega, by go_num, fun j hj => by
            rcases Nat.lt_or_ge j k with h | h
            · exact hpre.out j h
            · obtain rfl : j = k := by omega
              exact HZ.out, hq.drewN _⟩
          case measure => simp [intOf]; omega
        · have hb : decide (xs.getD k [] = ys.getD k []) = false := decide_eq_false hz
          have C := fun n => eqInts_any r1 r2 _ _ (wr.drewN n) (hr1.drewN n) (hr2.drewN n)
          rw [hb] at C
          have HZ := Lib.hid hz
          have HC := Lib.hid C
          clear hz hb C hr1 hr2
          go_wp2
          go_quiet ((go_at_call 33; exact Calls.quiet_of (HC.out _)))
          go_wp2
          go_ret
          exact ⟨ret_bool (decide_eq_false fun h => HZ.out (by rw [h])).symm, hq.drewN _⟩
      · go_wp2
        go_ret
        exact ⟨ret_bool (decide_eq_true (rows_ext HL.out.symm fun j hj => hpre.out j (by omega))).symm, hq⟩
  · have hb : ((xs.length : Int) != ys.length) = true := by simp; omega
    have HL := Lib.hid hl
    clear hl
    go_enter Try.func28, Try.ntmps28
    go_wp2
    go_ret
    exact ⟨ret_bool (decide_eq_false fun h => HL.out (by rw [h])).symm, Qu.refl _⟩

theorem heldInts_any (v : Value) (zs : List Int) (k0 : Int) (w : World) (h1 : Ints w v zs) (h0 : 0 ≤ k0) (hk0 : k0 + zs.length ≤ 4611686018427387904) (hz : zs = run k0 zs.length) :
    Calls Try.prog 35 #[v, .int .i64 k0] w fun e w' => e = .returned (.int .i64 (k0 + zs.length)) ∧ w = w' := by
  obtain ⟨ao1, p1, o1, c1, H1⟩ := h1.open
  obtain rfl := H1.val
  clear h1
  have HZ := Lib.hid hz
  clear hz
  go_enter Try.func35, Try.ntmps35
  go_wp2
  go_loop [1, 5] (fun q i => ∃ k : Nat, k ≤ zs.length ∧ i = .int .i64 k ∧ q = .int .i64 (k0 + k)) (fun _ i => zs.length - (intOf i).toNat)
  case atStart => exact ⟨0, Nat.zero_le _, rfl, by go_num⟩
  case round =>
    obtain ⟨k, hk, rfl, rfl⟩ := hrel
    by_cases hlt : k < zs.length
    · have i1 := idx_of Try.underlying55 size1_int (c := c1) H1.adr hlt .i64
      have d1 := H1.cell k hlt
      rw [show zs.getD k 0 = k0 + k by rw [HZ.out, run_getD _ _ _ hlt]] at d1
      have hb : ((k0 + (k : Int)) != k0 + k) = false := by simp
      go_wp2
      go_round
      case rel => exact ⟨k + 1, by omega, by go_num, by go_num⟩
      case measure => simp [intOf]; omega
    · obtain rfl : k = zs.length := by omega
      go_wp2
      go_ret
      exact ⟨rfl, rfl⟩

theorem heldRows_any (v : Value) (zss yss : List (List Int)) (k0 : Int) (w : World) (h1 : Rows2 w v zss) (h0 : 0 ≤ k0) (hk0 : k0 + bulk2 yss ≤ 4611686018427387904) (hz : zss = numRows k0 yss) :
    Calls Try.prog 30 #[v, .int .i64 k0] w fun e w' => e = .returned (.int .i64 (k0 + bulk2 yss)) ∧ w = w' := by
  obtain ⟨ao1, p1, o1, c1, H1⟩ := h1.open
  obtain rfl := H1.val
  clear h1
  have hlen : zss.length = yss.length := by rw [hz, numRows_length]
  have HN := Lib.hid hlen
  have HZ := Lib.hid hz
  have hm := H1.len
  clear hz hlen
  go_enter Try.func30, Try.ntmps30
  go_wp2
  go_loop [1, 5] (fun q i => ∃ k : Nat, k ≤ zss.length ∧ i = .int .i64 k ∧ q = .int .i64 (k0 + bulk2 (yss.take k))) (fun _ i => zss.length - (intOf i).toNat)
  case atStart => exact ⟨0, Nat.zero_le _, rfl, by simp [bulk2]⟩
  case round =>
    obtain ⟨k, hk, rfl, rfl⟩ := hrel
    by_cases hlt : k < zss.length
    · have i1 := idx_of Try.underlying22 size1_ints (c := c1) H1.adr hlt .i64
      obtain ⟨r1, d1, hr1⟩ := H1.cell k hlt
      have hk' : k < yss.length := by rw [← HN.out]; exact hlt
      have e1 := bulk2_take yss k hk'
      have hle := bulk2_le yss (k + 1)
      have e2 : zss.getD k [] = run (k0 + bulk2 (yss.take k)) (yss.getD k []).length := by rw [HZ.out, numRows_getD _ _ _ hk']
      have C := heldInts_any r1 (zss.getD k []) (k0 + bulk2 (yss.take k)) w hr1 (by omega) (by rw [e2, run_length]; omega) (by rw [e2, run_length])
      rw [show ((zss.getD k []).length : Int) = ((yss.getD k []).length : Nat) by rw [e2, run_length]] at C
      obtain ⟨q, hq⟩ : ∃ q : Nat, q = bulk2 (yss.take k) := ⟨_, rfl⟩
      rw [← hq] at C e1 ⊢
      obtain ⟨m, hm'⟩ : ∃ m : Nat, m = (yss.getD k []).length := ⟨_, rfl⟩
      rw [← hm'] at C e1
      have HC := Lib.hid C
      have E1 := Lib.hid e1
      have HLE := Lib.hid hle
      clear C e1 hle e2 hq hm'
      go_wp2_with fail
      refine HC.out.mono ?_
      rintro e w' ⟨rfl, rfl⟩
      go_wp2
      go_round
      case rel => exact ⟨k + 1, by omega, by go_num, by rw [E1.out]; go_num⟩
      case measure => simp [intOf]; omega
    · obtain rfl : k = zss.length := by omega
      rw [HN.out, List.take_length]
      go_wp2
      go_ret
      exact ⟨rfl, rfl⟩

end Go.Proofs.Ytocdkeidjocmkaa
