/- Sets as bits: flockOf, flock.set, step of the program; l02Bits, l02Moved, l02Set of the reference. -/
import Derived.Test.YtfdacodbiodiaaaGreatDoorGood
import Derived.Laws.BitsLemmas
import Derived.Lib.SliceRun
import Derived.Test.YtfdacodbiodiaaaGreatDoorNew
import Derived.Test.YtfdacodbiodiaaaGreatDoorHelp1
namespace Go.Proofs.YtfdacodbiodiaaaGreatDoor
set_option linter.unusedVariables false
set_option linter.unusedSimpArgs false
open Go.ChangeShapes Go.WideShapes Go.ChangeAt Go.RowKit

theorem wrap_i64_in (n : Int) (h : 0 ≤ n) (h2 : n < 9223372036854775808) : IntKind.i64.wrap n = n := by simp [IntKind.wrap, IntKind.bits, IntKind.signed]; omega
theorem wrap_u64_in (n : Int) (h : 0 ≤ n) (h2 : n < 18446744073709551616) : IntKind.u64.wrap n = n := by simp [IntKind.wrap, IntKind.bits, IntKind.signed]; omega
theorem pow_cast (n : Nat) : ((2 : Int) ^ n) = ((2 ^ n : Nat) : Int) := by simp
theorem pow_small {n : Nat} (h : n < 40) : (2 : Nat) ^ n < 1099511627776 := Nat.pow_lt_pow_right (a := 2) (by decide) h
theorem wrap_pow_u64 {n : Nat} (h : n < 40) : IntKind.u64.wrap ((2 : Int) ^ n) = ((2 ^ n : Nat) : Int) := by
  have := pow_small h
  rw [pow_cast]
  generalize 2 ^ n = q at *
  exact wrap_u64_in _ (by omega) (by omega)
theorem wrap_pow_i64 {n : Nat} (h : n < 40) : IntKind.i64.wrap ((2 : Int) ^ n) = ((2 ^ n : Nat) : Int) := by
  have := pow_small h
  rw [pow_cast]
  generalize 2 ^ n = q at *
  exact wrap_i64_in _ (by omega) (by omega)
theorem or_u64 {a b : Nat} (ha : a < 1099511627776) (hb : b < 1099511627776) : bits .or .u64 (a : Int) (b : Int) = ((a ||| b : Nat) : Int) :=
  (bits_nat .u64 40 (by decide) (fun n h0 h1 => wrap_u64_in n h0 (by omega)) a b ha hb).2
theorem or_i64 {a b : Nat} (ha : a < 1099511627776) (hb : b < 1099511627776) : bits .or .i64 (a : Int) (b : Int) = ((a ||| b : Nat) : Int) :=
  (bits_nat .i64 40 (by decide) (fun n h0 h1 => wrap_i64_in n h0 (by omega)) a b ha hb).2
theorem and_u64 {a b : Nat} (ha : a < 1099511627776) (hb : b < 1099511627776) : bits .and .u64 (a : Int) (b : Int) = ((a &&& b : Nat) : Int) :=
  (bits_nat .u64 40 (by decide) (fun n h0 h1 => wrap_u64_in n h0 (by omega)) a b ha hb).1
theorem and_i64 {a b : Nat} (ha : a < 1099511627776) (hb : b < 1099511627776) : bits .and .i64 (a : Int) (b : Int) = ((a &&& b : Nat) : Int) :=
  (bits_nat .i64 40 (by decide) (fun n h0 h1 => wrap_i64_in n h0 (by omega)) a b ha hb).1
theorem or_pow_u64 {a n : Nat} (ha : a < 1024) (hn : n < 10) : bits .or .u64 (a : Int) (IntKind.u64.wrap ((2 : Int) ^ n)) = ((a ||| 2 ^ n : Nat) : Int) := by
  have := pow_small (n := n) (by omega)
  rw [wrap_pow_u64 (by omega), or_u64 (by omega) this]
theorem or_pow_i64 {a n : Nat} (ha : a < 1024) (hn : n < 10) : bits .or .i64 (a : Int) (IntKind.i64.wrap ((2 : Int) ^ n)) = ((a ||| 2 ^ n : Nat) : Int) := by
  have := pow_small (n := n) (by omega)
  rw [wrap_pow_i64 (by omega), or_i64 (by omega) this]
theorem wrap64_i64 (n : Int) : wrap64 n = IntKind.i64.wrap n := by rw [IntKind.wrap_i64]; unfold wrap64; rfl
theorem or_pow_w64 {a n : Nat} (ha : a < 1024) (hn : n < 10) : bits .or .i64 (a : Int) (wrap64 ((2 : Int) ^ n)) = ((a ||| 2 ^ n : Nat) : Int) := by rw [wrap64_i64, or_pow_i64 ha hn]
theorem div_cast (f k : Nat) : (f : Int) / 2 ^ k = ((f / 2 ^ k : Nat) : Int) := by simp
theorem bit_u64 {f k : Nat} (hf : f < 1024) : (bits .and .u64 ((f : Int) / 2 ^ k) 1 == 1) = f.testBit k := by
  have h : f / 2 ^ k < 1099511627776 := Nat.lt_of_le_of_lt (Nat.div_le_self _ _) (by omega)
  rw [div_cast, show (1 : Int) = ((1 : Nat) : Int) by rfl, and_u64 h (by decide), Nat.and_one_is_mod, Nat.testBit_eq_decide_div_mod_eq]
  by_cases e : f / 2 ^ k % 2 = 1
  · simp [e]
  · have : f / 2 ^ k % 2 = 0 := by omega
    simp [this]
theorem bit_i64 {f k : Nat} (hf : f < 1024) : (bits .and .i64 ((f : Int) / 2 ^ k) 1 == 1) = f.testBit k := by
  have h : f / 2 ^ k < 1099511627776 := Nat.lt_of_le_of_lt (Nat.div_le_self _ _) (by omega)
  rw [div_cast, show (1 : Int) = ((1 : Nat) : Int) by rfl, and_i64 h (by decide), Nat.and_one_is_mod, Nat.testBit_eq_decide_div_mod_eq]
  by_cases e : f / 2 ^ k % 2 = 1
  · simp [e]
  · have : f / 2 ^ k % 2 = 0 := by omega
    simp [this]
theorem shr_pos {f k : Nat} (h : ¬ f < 2 ^ k) : (0 : Int) < (f : Int) / 2 ^ k := by
  rw [div_cast]
  have : 0 < f / 2 ^ k := Nat.div_pos (by omega) (Nat.two_pow_pos k)
  omega
theorem shr_zero {f k : Nat} (h : f < 2 ^ k) : (f : Int) / 2 ^ k ≤ 0 := by
  rw [div_cast, Nat.div_eq_of_lt h]
  exact Int.le_refl _
theorem setTo_yes {f k : Nat} (h : f.testBit k = true) : ((setTo f k).map fun (s : Nat) => (s : Int)).map (Value.int .i64) ++ [.int .i64 (k : Int)] = ((setTo f (k + 1)).map fun (s : Nat) => (s : Int)).map (Value.int .i64) := by
  rw [setTo_succ, h]; simp
theorem setTo_no {f k : Nat} (h : f.testBit k = false) : setTo f (k + 1) = setTo f k := by rw [setTo_succ, h]; rfl
theorem setTo_le (f k : Nat) : (setTo f k).length ≤ k := by unfold setTo; exact Nat.le_trans (List.length_filter_le _ _) (by simp)
theorem full_w64 {n : Nat} (h : n < 40) : wrap64 (wrap64 ((2 : Int) ^ n) - 1) = ((2 ^ n - 1 : Nat) : Int) := by
  rw [wrap64_i64, wrap64_i64, wrap_pow_i64 h]
  have := pow_small h
  have := Nat.two_pow_pos n
  rw [wrap_i64_in _ (by omega) (by omega)]
  omega
theorem add_plain' (b o k : Nat) : (⟨b, o, none⟩ : Addr).add k = ⟨b, o + k, none⟩ := by simp [Addr.add_lit]
theorem ret_u64 {a b : Int} (h : a = b) : Ending.returned (.int .u64 a) = .returned (.int .u64 b) := by rw [h]










set_option maxRecDepth 100000 in
/-- slices.Clone of numbers -/
theorem cloneInts_any (v : Value) (xs : List Int) (w : World) (h1 : Ints w v xs) (hl : xs.length ≤ 1048576) : Calls Tryz.prog 67 #[v] w (NewInts xs w) := by
  obtain ⟨ao, b, o, c, H⟩ := h1.open
  have hv := H.val
  subst hv
  have q22 : ∀ (w : World) (a : Option Addr) (n c n' c' : Nat), (binOp .eql 45 (.slice a n c) (.slice none n' c')).run Tryz.prog w = .ok (.bool a.isNone) w := fun w a n c n' c' => Lib.run_eql_slice_nil w _ _ a n c n' c' Tryz.underlying45
  cases ao with
  | none =>
    have h0 : xs = [] := by
      cases xs with
      | nil => rfl
      | cons x xs => have := H.adr (by simp); cases this
    subst h0
    clear h1 H hl
    go_enter Tryz.func67, Tryz.ntmps67
    go_wp2
    go_ret
    exact ⟨_, rfl, World.ownsRow_nil _ _ _ _, Below.refl _ _⟩
  | some a =>
    have HE := Lib.hid (own_empty w w.heap.size (Nat.le_refl _) 2)
    have HC : Hid (∀ j u, (xs.map (Value.int .i64))[j]? = some u → w.cell? (a.add j) = some u) := by
      intro j u hj
      have hjl : j < xs.length := by have := (List.getElem?_eq_some_iff.1 hj).1; simpa using this
      have e := H.adr (by omega)
      injection e with e
      rw [e, add_plain', H.cell j hjl]
      simp [List.getD_eq_getElem?_getD, hjl] at hj ⊢
      exact hj
    clear h1 H
    go_enter Tryz.func67, Tryz.ntmps67
    go_wp2_with (at_builtin; refine wpList_appendE elem_int rfl (.tmp 5) (.tmp 6) rfl w.heap.size rfl HE.out a xs.length c (xs.map (Value.int .i64)) rfl (by simp) (fun j u hj => Lib.cell?_alloc_some _ (HC.out j u hj)) (fun u hu => by obtain ⟨x, _, rfl⟩ := List.mem_map.1 hu; rfl) (by unfold maxLen; omega) (by omega) (by simp) ?_; intro v' w1 hown hgr hs)
    go_wp2
    go_ret
    refine ⟨v', rfl, by simpa using hown, ?_⟩
    exact (below_alloc (Below.refl _ w) _).grown hgr (by simp) (fun g hg => (own_block HE.out hg).1)

end Go.Proofs.YtfdacodbiodiaaaGreatDoor
