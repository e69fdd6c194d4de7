/- The laws' helpers at a struct of lists of rows that the call owns: mark and held. -/
import Derived.Test.YtocdkeidjocmkaaCubeMark
namespace Go.Proofs.Ytocdkeidjocmkaa
set_option linter.unusedVariables false
set_option linter.unusedSimpArgs false
open Go.ChangeShapes Go.WideShapes Go.ChangeAt Go.RowKit

theorem heldCube_any (v : Value) (zss yss : List (List (List Int))) (k0 : Int) (w : World) (h1 : Rows3 w v zss) (h0 : 0 ≤ k0) (hk0 : k0 + bulkN yss ≤ 4611686018427387904) (hz : zss = numCube k0 yss) :
    Calls Try.prog 46 #[v, .int .i64 k0] w fun e w' => e = .returned (.int .i64 (k0 + bulkN yss)) ∧ w = w' := by
  obtain ⟨ao1, p1, o1, c1, H1⟩ := h1.open
  obtain rfl := H1.val
  clear h1
  have hlen : zss.length = yss.length := by rw [hz, numCube_length]
  have HN := Lib.hid hlen
  have HZ := Lib.hid hz
  have hm := H1.len
  clear hz hlen
  go_enter Try.func46, Try.ntmps46
  go_wp2
  go_loop [1, 5] (fun q i => ∃ k : Nat, k ≤ zss.length ∧ i = .int .i64 k ∧ q = .int .i64 (k0 + bulkN (yss.take k))) (fun _ i => zss.length - (intOf i).toNat)
  case atStart => exact ⟨0, Nat.zero_le _, rfl, by simp [bulkN]⟩
  case round =>
    obtain ⟨k, hk, rfl, rfl⟩ := hrel
    by_cases hlt : k < zss.length
    · have i1 := idx_of Try.underlying26 size1_rows (c := c1) H1.adr hlt .i64
      obtain ⟨r1, d1, hr1⟩ := H1.cell k hlt
      have hk' : k < yss.length := by rw [← HN.out]; exact hlt
      have e1 := bulkN_take yss k hk'
      have hle := bulkN_le yss (k + 1)
      have e2 : zss.getD k [] = numRows (k0 + bulkN (yss.take k)) (yss.getD k []) := by rw [HZ.out, numCube_getD _ _ _ hk']
      have C := heldRows_any r1 (zss.getD k []) (yss.getD k []) (k0 + bulkN (yss.take k)) w hr1 (by omega) (by omega) e2
      obtain ⟨q, hq⟩ : ∃ q : Nat, q = bulkN (yss.take k) := ⟨_, rfl⟩
      rw [← hq] at C e1 ⊢
      obtain ⟨m, hm'⟩ : ∃ m : Nat, m = bulk2 (yss.getD k []) := ⟨_, rfl⟩
      rw [← hm'] at C e1
      have HC := Lib.hid C
      have E1 := Lib.hid e1
      have HLE := Lib.hid hle
      clear C e1 hle e2 hq hm'
      go_wp2_with fail
      refine HC.out.mono ?_
      rintro e w' ⟨rfl, rfl⟩
      go_wp2
      go_round
      case rel => exact ⟨k + 1, by omega, by go_num, by rw [E1.out]; go_num⟩
      case measure => simp [intOf]; omega
    · obtain rfl : k = zss.length := by omega
      rw [HN.out, List.take_length]
      go_wp2
      go_ret
      exact ⟨rfl, rfl⟩

theorem markChoice_any (st : Int) (v : Value) (lo hi : Nat) (rs : List Value) (xss : List (List (List Int))) (k0 : Int) (w : World) (hown : CubeIn w lo hi v rs xss) (hin : True) (hhi : hi ≤ w.heap.size) (h0 : 0 ≤ k0) (hk0 : k0 + bulkN xss ≤ 4611686018427387904) :
    Calls Try.prog 15 #[.agg #[.int .i64 st, v], .int .i64 k0] w (Marked3 v lo hi rs xss k0 w) := by
  obtain ⟨ao, m, c, rfl, HM⟩ := hown.reads.shape
  have HC := fun W (hb : Below w.heap.size w W) => markCube_any _ lo hi rs xss k0 W (hown.below hb) h0 hk0
  have HH := Lib.hid HC
  clear hown HC
  go_enter Try.func15, Try.ntmps15
  go_wp2_with fail
  refine (HH.out _ ?_).mono ?_
  · repeat (first | exact Below.refl _ _ | refine below_alloc ?_ _)
  rintro e w2 ⟨rfl, ho, hg⟩
  go_wp2
  go_ret
  exact ⟨rfl, ho, Chg.trans (chg_alloc (Chg.refl _ _ _) _) hg⟩

theorem heldChoice_any (st : Int) (v : Value) (zss yss : List (List (List Int))) (k0 : Int) (w : World) (h1 : Rows3 w v zss) (h0 : 0 ≤ k0) (hk0 : k0 + bulkN yss ≤ 4611686018427387904) (hz : zss = numCube k0 yss) :
    Calls Try.prog 16 #[.agg #[.int .i64 st, v], .int .i64 k0] w (RetB (.int .i64 (k0 + bulkN yss)) w) := by
  obtain ⟨ao, m, c, rfl, HM⟩ := h1.shape
  have HC := fun W (hb : Below w.heap.size w W) => heldCube_any _ zss yss k0 W (h1.kept hb) h0 hk0 hz
  have HH := Lib.hid HC
  have HZ := Lib.hid hz
  clear h1 HC hz
  go_enter Try.func16, Try.ntmps16
  go_wp2_with fail
  refine (HH.out _ ?_).mono ?_
  · repeat (first | exact Below.refl _ _ | refine below_alloc ?_ _)
  rintro e w2 ⟨rfl, rfl⟩
  go_wp2
  go_ret
  exact ⟨rfl, below_alloc (Below.refl _ _) _⟩

end Go.Proofs.Ytocdkeidjocmkaa
