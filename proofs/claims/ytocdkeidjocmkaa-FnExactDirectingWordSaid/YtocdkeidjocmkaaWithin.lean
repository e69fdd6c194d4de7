/- impl.areWithin and its function literal; impl.size. -/
import Derived.Test.YtocdkeidjocmkaaIdxFunc
import Derived.Test.YtocdkeidjocmkaaIn
namespace Go.Proofs.Ytocdkeidjocmkaa
set_option linter.unusedVariables false
set_option linter.unusedSimpArgs false
open Go.ChangeShapes Go.WideShapes Go.ChangeAt Go.RowKit

/-- are all numbers between lo and hi? -/
def allIn (zs : List Int) (lo hi : Int) : Bool := zs.all fun z => inB z lo hi
theorem allIn_anyAt (zs : List Int) (lo hi : Int) : anyAt (fun k => !inB (zs.getD k 0) lo hi) zs.length = !allIn zs lo hi := by
  rw [Bool.eq_iff_iff]
  rw [anyAt_true]
  simp only [allIn, Bool.not_eq_true', List.all_eq_false, Bool.not_eq_true]
  constructor
  · rintro ⟨k, hk, h⟩
    exact ⟨zs[k], List.getElem_mem hk, by simpa [List.getD_eq_getElem?_getD, hk] using h⟩
  · rintro ⟨z, hz, h⟩
    obtain ⟨k, hk, rfl⟩ := List.getElem_of_mem hz
    exact ⟨k, hk, by simpa [List.getD_eq_getElem?_getD, hk] using h⟩

theorem sizeInts_any (ao : Option Addr) (n c : Nat) (w : World) (hn : n ≤ 9223372036854775807) :
    Calls Try.prog 87 #[.slice ao n c] w fun e w' => e = .returned (.int .i64 n) ∧ w' = w := by
  go_enter Try.func87, Try.ntmps87
  go_wp2
  go_ret
  exact ⟨rfl, rfl⟩
theorem sizeRows_any (ao : Option Addr) (n c : Nat) (w : World) (hn : n ≤ 9223372036854775807) :
    Calls Try.prog 100 #[.slice ao n c] w fun e w' => e = .returned (.int .i64 n) ∧ w' = w := by
  go_enter Try.func100, Try.ntmps100
  go_wp2
  go_ret
  exact ⟨rfl, rfl⟩

theorem areWithinLit_any (z lo hi : Int) (b1 b2 : Nat) (W : World) (d1 : W.cell? ⟨b1, 0, none⟩ = some (.int .i64 lo)) (d2 : W.cell? ⟨b2, 0, none⟩ = some (.int .i64 hi)) :
    Calls Try.prog 114 #[.int .i64 z, .pointer (some ⟨b1, 0, none⟩), .pointer (some ⟨b2, 0, none⟩)] W (RetB (.bool (!inB z lo hi)) W) := by
  have HC := Lib.hid (within_any z lo hi W)
  cases hb : inB z lo hi
  all_goals
    rw [hb] at HC
    clear hb
    go_enter Try.func114, Try.ntmps114
    go_wp2_with fail
    refine HC.out.mono ?_
    rintro e w' ⟨rfl, rfl⟩
    go_wp2
    go_ret
    exact ⟨rfl, Below.refl _ _⟩

theorem areWithin_any (v : Value) (zs : List Int) (lo hi : Int) (w : World) (h1 : Ints w v zs) :
    Calls Try.prog 88 #[v, .int .i64 lo, .int .i64 hi] w (RetB (.bool (allIn zs lo hi)) w) := by
  have hlen : (zs.map (Value.int .i64)).length = zs.length := by simp
  have eg : ∀ args w, (callFunc 114 args).run Try.prog w = .ok (.enter 114 args) w := fun _ _ => by kernel_rfl
  have HC : ∀ W, W = (w.alloc (.cells #[.int .i64 lo] 2)).alloc (.cells #[.int .i64 hi] 2) →
      Calls Try.prog 113 #[v, .func (.func 114) #[] #[.pointer (some ⟨w.heap.size, 0, none⟩), .pointer (some ⟨w.heap.size + 1, 0, none⟩)]] W (RetB (.bool (!allIn zs lo hi)) W) := by
    rintro W rfl
    have hb : Below w.heap.size w ((w.alloc (.cells #[.int .i64 lo] 2)).alloc (.cells #[.int .i64 hi] 2)) := below_alloc (below_alloc (Below.refl _ _) _) _
    have C := containsFuncInts_any v _ 114 #[.pointer (some ⟨w.heap.size, 0, none⟩), .pointer (some ⟨w.heap.size + 1, 0, none⟩)] (fun k => !inB (zs.getD k 0) lo hi) _ (h1.kept hb) eg (fun k hk W hW => by
      rw [hlen] at hk
      have e : (zs.map (Value.int .i64)).getD k undef = .int .i64 (zs.getD k 0) := by simp [List.getD_eq_getElem?_getD, hk]
      rw [e]
      refine areWithinLit_any _ lo hi _ _ W ?_ ?_
      · rw [hW.cell (by simp <;> omega)]; go_simp
      · rw [hW.cell (by simp <;> omega)]; go_simp)
    rw [hlen, allIn_anyAt] at C
    exact C
  have HH := Lib.hid HC
  clear HC h1 hlen eg
  cases hz : allIn zs lo hi
  all_goals
    rw [hz] at HH
    clear hz
    go_enter Try.func88, Try.ntmps88
    go_wp2_with fail
    refine (HH.out _ rfl).mono ?_
    rintro e w' ⟨rfl, hb⟩
    go_wp2
    go_ret
    exact ⟨rfl, below_trans (below_alloc (below_alloc (Below.refl _ _) _) _) hb⟩

end Go.Proofs.Ytocdkeidjocmkaa
