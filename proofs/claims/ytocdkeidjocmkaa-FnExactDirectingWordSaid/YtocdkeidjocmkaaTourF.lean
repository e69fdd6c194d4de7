/- The first set of a tour of which something is so: the program's first, isSmall; the reference's l02Single, word, l02Shrink, l02Told. -/
import Derived.Test.YtocdkeidjocmkaaTourI
import Derived.Test.YtocdkeidjocmkaaTourS
import Derived.Test.YtocdkeidjocmkaaIdxFunc
namespace Go.Proofs.Ytocdkeidjocmkaa
set_option linter.unusedVariables false
set_option linter.unusedSimpArgs false
open Go.ChangeShapes Go.WideShapes Go.ChangeAt Go.RowKit

/-- at most one bit -/
def smallB (f : Nat) : Bool := (f &&& (f - 1)) == 0
theorem small_u64 {f : Nat} (hf : f < 1024) : (bits .and .u64 (f : Int) (IntKind.u64.wrap ((f : Int) - 1)) == 0) = smallB f := by
  by_cases h : f = 0
  · subst h; decide
  · have e : IntKind.u64.wrap ((f : Int) - 1) = ((f - 1 : Nat) : Int) := by rw [wrap_u64_in _ (by omega) (by omega)]; omega
    rw [e, and_u64 (by omega) (by omega)]
    unfold smallB
    rw [Bool.eq_iff_iff]
    simp
theorem small_w64 {f : Nat} (hf : f < 1024) : (bits .and .i64 (f : Int) ((f : Int) - 1) == 0) = smallB f := by
  by_cases h : f = 0
  · subst h; decide
  · have e : ((f : Int) - 1) = ((f - 1 : Nat) : Int) := by omega
    rw [e, and_i64 (by omega) (by omega)]
    unfold smallB
    rw [Bool.eq_iff_iff]
    simp

/-- the first set of which p is so, with its word -/
def firstT (p : Nat → Bool) (T : Tour) : Option (Nat × List Int) := T.find? fun e => p e.1
def wordP (p : Nat → Bool) (T : Tour) : List Int := ((firstT p T).map Prod.snd).getD []
def codeP (p : Nat → Bool) (T : Tour) : Int := if (firstT p T).isSome then 0 else 6
theorem Tour.at_get {T : Tour} {k : Nat} (h : k < T.length) : T.at k = T[k] := by simp [Tour.at, List.getD_eq_getElem?_getD, h]
theorem firstT_no {p : Nat → Bool} {T : Tour} (h : ∀ k, k < T.length → p (T.at k).1 = false) : firstT p T = none := by
  unfold firstT
  rw [List.find?_eq_none]
  intro e he
  obtain ⟨k, hk, rfl⟩ := List.getElem_of_mem he
  rw [← Tour.at_get hk, h k hk]
  simp
theorem firstT_yes {p : Nat → Bool} {T : Tour} {k : Nat} (hk : k < T.length) (hp : p (T.at k).1 = true) (h : ∀ j, j < k → p (T.at j).1 = false) : firstT p T = some (T.at k) := by
  unfold firstT
  rw [List.find?_eq_some_iff_getElem]
  refine ⟨hp, k, hk, (Tour.at_get hk).symm, fun j hj => ?_⟩
  have := h j hj
  rw [Tour.at_get (by omega)] at this
  simp [this]


theorem indexFuncFlock_any (v : Value) (vs : List Value) (g : FuncId) (lb : Array Value) (q : Nat → Bool) (w : World) (h1 : Sl w v vs) (eg : ∀ args w, (callFunc g args).run Try.prog w = .ok (.enter g args) w) (hp : AsksAt g lb vs q w) :
    Calls Try.prog 124 #[v, .func (.func g) #[] lb] w (RetB (.int .i64 (firstAt q vs.length)) w) := by
  obtain ⟨ao, b, o, c, hv, ha, hc, hl⟩ := h1
  subst hv
  have HP := Lib.hid hp
  clear hp
  go_enter Try.func124, Try.ntmps124
  go_wp2
  go_loopw [5, 8] (fun _ i wr => ∃ k : Nat, k ≤ vs.length ∧ i = .int .i64 k ∧ Hid (∀ j, j < k → q j = false) ∧ Below w.heap.size w wr) (fun _ i _ => vs.length - (intOf i).toNat)
  case atStart => exact ⟨0, Nat.zero_le _, rfl, fun j hj => absurd hj (by omega), Below.refl _ _⟩
  case round =>
    obtain ⟨k, hk, rfl, hno, hb⟩ := hrel
    by_cases hlt : k < vs.length
    · have i1 := idx_of Try.underlying107 size1_flock (c := c) ha hlt .i64
      have d0 := hc k hlt
      have d1 := (hb.cell (block_lt_of_cell d0)).trans d0
      have HC := Lib.hid (HP.out k hlt wr hb)
      have hd : True := trivial
      obtain ⟨u, hu⟩ : ∃ u, u = vs.getD k undef := ⟨_, rfl⟩
      rw [← hu] at d1 HC
      have HU := Lib.hid hu
      clear d0 hu hd
      go_wp2_with fail
      refine HC.out.mono ?_
      rintro e w2 ⟨rfl, hb2⟩
      have hb3 : Below w.heap.size w w2 := hb.trans (hb2.mono hb.size)
      cases hq : q k
      · have HQ := Lib.hid hq
        clear hq
        go_wp2
        go_roundw
        case rel => exact ⟨k + 1, by omega, by go_num, fun j hj => by
          rcases Nat.lt_or_ge j k with h | h
          · exact hno.out j h
          · obtain rfl : j = k := by omega
            exact HQ.out, hb3⟩
        case measure => simp [intOf]; omega
      · have HQ := Lib.hid hq
        clear hq
        go_wp2
        go_ret
        exact ⟨ret_int (firstAt_yes hlt HQ.out hno.out).symm, hb3⟩
    · go_wp2
      go_ret
      exact ⟨ret_int (firstAt_no fun j hj => hno.out j (by omega)).symm, hb⟩



theorem isSmall_any (f : Nat) (w : World) (hf : f < 1024) : Calls Try.prog 108 #[.int .u64 f] w fun e w' => e = .returned (.bool (smallB f)) ∧ w = w' := by
  have hs := small_u64 hf
  cases hb : smallB f
  all_goals
    rw [hb] at hs
    clear hb
    go_enter Try.func108, Try.ntmps108
    go_wp2
    go_ret
    exact ⟨by simp_all, rfl⟩

theorem l02Single_any (f : Nat) (w : World) (hf : f < 1024) : Calls Try.prog 91 #[.int .i64 f] w fun e w' => e = .returned (.bool (smallB f)) ∧ w = w' := by
  have hs := small_w64 hf
  cases hb : smallB f
  all_goals
    rw [hb] at hs
    clear hb
    go_enter Try.func91, Try.ntmps91
    go_wp2
    go_ret
    exact ⟨by simp_all, rfl⟩

end Go.Proofs.Ytocdkeidjocmkaa
