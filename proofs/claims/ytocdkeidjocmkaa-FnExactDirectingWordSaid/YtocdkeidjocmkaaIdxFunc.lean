/- slices.IndexFunc and slices.ContainsFunc, over whatever function value that leaves what was there as it was. -/
import Derived.Test.YtocdkeidjocmkaaHelp1
import Derived.Test.YtocdkeidjocmkaaOwn
namespace Go.Proofs.Ytocdkeidjocmkaa
set_option linter.unusedVariables false
set_option linter.unusedSimpArgs false
open Go.ChangeShapes Go.WideShapes Go.ChangeAt Go.RowKit

/-- the first place below n at which q says yes, else -1 -/
def firstAt (q : Nat → Bool) (n : Nat) : Int := if ∃ k, k < n ∧ q k = true then (((List.range n).find? q).getD 0 : Nat) else -1
/-- does q say yes below n? -/
def anyAt (q : Nat → Bool) (n : Nat) : Bool := (List.range n).any q

theorem anyAt_true {q : Nat → Bool} {n : Nat} : anyAt q n = true ↔ ∃ k, k < n ∧ q k = true := by simp [anyAt]
theorem anyAt_false {q : Nat → Bool} {n : Nat} : anyAt q n = false ↔ ∀ k, k < n → q k = false := by simp [anyAt]

theorem firstAt_no {q : Nat → Bool} {n : Nat} (h : ∀ k, k < n → q k = false) : firstAt q n = -1 := by
  unfold firstAt
  rw [if_neg]
  rintro ⟨k, hk, hq⟩
  rw [h k hk] at hq
  simp at hq
theorem firstAt_yes {q : Nat → Bool} {n k : Nat} (hk : k < n) (hq : q k = true) (h : ∀ j, j < k → q j = false) : firstAt q n = k := by
  unfold firstAt
  rw [if_pos ⟨k, hk, hq⟩]
  have : (List.range n).find? q = some k := by
    rw [List.find?_range_eq_some]
    exact ⟨hq, by simpa using hk, fun j hj => by simp [h j hj]⟩
  rw [this]
  rfl

/-- what is asked of a function value: at the k-th element it answers q k, in every later world -/
def AsksAt (g : FuncId) (lb : Array Value) (vs : List Value) (q : Nat → Bool) (w : World) : Prop :=
  ∀ k, k < vs.length → ∀ W, Below w.heap.size w W → Calls Try.prog g (#[vs.getD k undef] ++ lb) W (RetB (.bool (q k)) W)


theorem indexFuncInts_any (v : Value) (vs : List Value) (g : FuncId) (lb : Array Value) (q : Nat → Bool) (w : World) (h1 : Sl w v vs) (eg : ∀ args w, (callFunc g args).run Try.prog w = .ok (.enter g args) w) (hp : AsksAt g lb vs q w) :
    Calls Try.prog 122 #[v, .func (.func g) #[] lb] w (RetB (.int .i64 (firstAt q vs.length)) w) := by
  obtain ⟨ao, b, o, c, hv, ha, hc, hl⟩ := h1
  subst hv
  have HP := Lib.hid hp
  clear hp
  go_enter Try.func122, Try.ntmps122
  go_wp2
  go_loopw [5, 8] (fun _ i wr => ∃ k : Nat, k ≤ vs.length ∧ i = .int .i64 k ∧ Hid (∀ j, j < k → q j = false) ∧ Below w.heap.size w wr) (fun _ i _ => vs.length - (intOf i).toNat)
  case atStart => exact ⟨0, Nat.zero_le _, rfl, fun j hj => absurd hj (by omega), Below.refl _ _⟩
  case round =>
    obtain ⟨k, hk, rfl, hno, hb⟩ := hrel
    by_cases hlt : k < vs.length
    · have i1 := idx_of Try.underlying55 size1_int (c := c) ha hlt .i64
      have d0 := hc k hlt
      have d1 := (hb.cell (block_lt_of_cell d0)).trans d0
      have HC := Lib.hid (HP.out k hlt wr hb)
      have hd : True := trivial
      obtain ⟨u, hu⟩ : ∃ u, u = vs.getD k undef := ⟨_, rfl⟩
      rw [← hu] at d1 HC
      have HU := Lib.hid hu
      clear d0 hu hd
      go_wp2_with fail
      refine HC.out.mono ?_
      rintro e w2 ⟨rfl, hb2⟩
      have hb3 : Below w.heap.size w w2 := hb.trans (hb2.mono hb.size)
      cases hq : q k
      · have HQ := Lib.hid hq
        clear hq
        go_wp2
        go_roundw
        case rel => exact ⟨k + 1, by omega, by go_num, fun j hj => by
          rcases Nat.lt_or_ge j k with h | h
          · exact hno.out j h
          · obtain rfl : j = k := by omega
            exact HQ.out, hb3⟩
        case measure => simp [intOf]; omega
      · have HQ := Lib.hid hq
        clear hq
        go_wp2
        go_ret
        exact ⟨ret_int (firstAt_yes hlt HQ.out hno.out).symm, hb3⟩
    · go_wp2
      go_ret
      exact ⟨ret_int (firstAt_no fun j hj => hno.out j (by omega)).symm, hb⟩

theorem containsFuncInts_any (v : Value) (vs : List Value) (g : FuncId) (lb : Array Value) (q : Nat → Bool) (w : World) (h1 : Sl w v vs) (eg : ∀ args w, (callFunc g args).run Try.prog w = .ok (.enter g args) w) (hp : AsksAt g lb vs q w) :
    Calls Try.prog 113 #[v, .func (.func g) #[] lb] w (RetB (.bool (anyAt q vs.length)) w) := by
  have HC := Lib.hid (indexFuncInts_any v vs g lb q w h1 eg hp)
  clear hp h1
  cases ha : anyAt q vs.length
  · have h := firstAt_no (anyAt_false.1 ha)
    rw [h] at HC
    clear ha h eg
    go_enter Try.func113, Try.ntmps113
    go_wp2_with fail
    refine HC.out.mono ?_
    rintro e w' ⟨rfl, hb⟩
    go_wp2
    go_ret
    exact ⟨rfl, hb⟩
  · obtain ⟨k, hk, hq⟩ := anyAt_true.1 ha
    have h : 0 ≤ firstAt q vs.length := by unfold firstAt; rw [if_pos ⟨k, hk, hq⟩]; omega
    generalize firstAt q vs.length = f at HC h
    clear ha hk hq eg
    go_enter Try.func113, Try.ntmps113
    go_wp2_with fail
    refine HC.out.mono ?_
    rintro e w' ⟨rfl, hb⟩
    go_wp2
    go_ret
    exact ⟨rfl, hb⟩


theorem indexFuncRows_any (v : Value) (vs : List Value) (g : FuncId) (lb : Array Value) (q : Nat → Bool) (w : World) (h1 : Sl w v vs) (eg : ∀ args w, (callFunc g args).run Try.prog w = .ok (.enter g args) w) (hp : AsksAt g lb vs q w) :
    Calls Try.prog 112 #[v, .func (.func g) #[] lb] w (RetB (.int .i64 (firstAt q vs.length)) w) := by
  obtain ⟨ao, b, o, c, hv, ha, hc, hl⟩ := h1
  subst hv
  have HP := Lib.hid hp
  clear hp
  go_enter Try.func112, Try.ntmps112
  go_wp2
  go_loopw [5, 8] (fun _ i wr => ∃ k : Nat, k ≤ vs.length ∧ i = .int .i64 k ∧ Hid (∀ j, j < k → q j = false) ∧ Below w.heap.size w wr) (fun _ i _ => vs.length - (intOf i).toNat)
  case atStart => exact ⟨0, Nat.zero_le _, rfl, fun j hj => absurd hj (by omega), Below.refl _ _⟩
  case round =>
    obtain ⟨k, hk, rfl, hno, hb⟩ := hrel
    by_cases hlt : k < vs.length
    · have i1 := idx_of Try.underlying22 size1_ints (c := c) ha hlt .i64
      have d0 := hc k hlt
      have d1 := (hb.cell (block_lt_of_cell d0)).trans d0
      have HC := Lib.hid (HP.out k hlt wr hb)
      have hd : True := trivial
      obtain ⟨u, hu⟩ : ∃ u, u = vs.getD k undef := ⟨_, rfl⟩
      rw [← hu] at d1 HC
      have HU := Lib.hid hu
      clear d0 hu hd
      go_wp2_with fail
      refine HC.out.mono ?_
      rintro e w2 ⟨rfl, hb2⟩
      have hb3 : Below w.heap.size w w2 := hb.trans (hb2.mono hb.size)
      cases hq : q k
      · have HQ := Lib.hid hq
        clear hq
        go_wp2
        go_roundw
        case rel => exact ⟨k + 1, by omega, by go_num, fun j hj => by
          rcases Nat.lt_or_ge j k with h | h
          · exact hno.out j h
          · obtain rfl : j = k := by omega
            exact HQ.out, hb3⟩
        case measure => simp [intOf]; omega
      · have HQ := Lib.hid hq
        clear hq
        go_wp2
        go_ret
        exact ⟨ret_int (firstAt_yes hlt HQ.out hno.out).symm, hb3⟩
    · go_wp2
      go_ret
      exact ⟨ret_int (firstAt_no fun j hj => hno.out j (by omega)).symm, hb⟩

theorem containsFuncRows_any (v : Value) (vs : List Value) (g : FuncId) (lb : Array Value) (q : Nat → Bool) (w : World) (h1 : Sl w v vs) (eg : ∀ args w, (callFunc g args).run Try.prog w = .ok (.enter g args) w) (hp : AsksAt g lb vs q w) :
    Calls Try.prog 85 #[v, .func (.func g) #[] lb] w (RetB (.bool (anyAt q vs.length)) w) := by
  have HC := Lib.hid (indexFuncRows_any v vs g lb q w h1 eg hp)
  clear hp h1
  cases ha : anyAt q vs.length
  · have h := firstAt_no (anyAt_false.1 ha)
    rw [h] at HC
    clear ha h eg
    go_enter Try.func85, Try.ntmps85
    go_wp2_with fail
    refine HC.out.mono ?_
    rintro e w' ⟨rfl, hb⟩
    go_wp2
    go_ret
    exact ⟨rfl, hb⟩
  · obtain ⟨k, hk, hq⟩ := anyAt_true.1 ha
    have h : 0 ≤ firstAt q vs.length := by unfold firstAt; rw [if_pos ⟨k, hk, hq⟩]; omega
    generalize firstAt q vs.length = f at HC h
    clear ha hk hq eg
    go_enter Try.func85, Try.ntmps85
    go_wp2_with fail
    refine HC.out.mono ?_
    rintro e w' ⟨rfl, hb⟩
    go_wp2
    go_ret
    exact ⟨rfl, hb⟩


theorem indexFuncCube_any (v : Value) (vs : List Value) (g : FuncId) (lb : Array Value) (q : Nat → Bool) (w : World) (h1 : Sl w v vs) (eg : ∀ args w, (callFunc g args).run Try.prog w = .ok (.enter g args) w) (hp : AsksAt g lb vs q w) :
    Calls Try.prog 121 #[v, .func (.func g) #[] lb] w (RetB (.int .i64 (firstAt q vs.length)) w) := by
  obtain ⟨ao, b, o, c, hv, ha, hc, hl⟩ := h1
  subst hv
  have HP := Lib.hid hp
  clear hp
  go_enter Try.func121, Try.ntmps121
  go_wp2
  go_loopw [5, 8] (fun _ i wr => ∃ k : Nat, k ≤ vs.length ∧ i = .int .i64 k ∧ Hid (∀ j, j < k → q j = false) ∧ Below w.heap.size w wr) (fun _ i _ => vs.length - (intOf i).toNat)
  case atStart => exact ⟨0, Nat.zero_le _, rfl, fun j hj => absurd hj (by omega), Below.refl _ _⟩
  case round =>
    obtain ⟨k, hk, rfl, hno, hb⟩ := hrel
    by_cases hlt : k < vs.length
    · have i1 := idx_of Try.underlying26 size1_rows (c := c) ha hlt .i64
      have d0 := hc k hlt
      have d1 := (hb.cell (block_lt_of_cell d0)).trans d0
      have HC := Lib.hid (HP.out k hlt wr hb)
      have hd : True := trivial
      obtain ⟨u, hu⟩ : ∃ u, u = vs.getD k undef := ⟨_, rfl⟩
      rw [← hu] at d1 HC
      have HU := Lib.hid hu
      clear d0 hu hd
      go_wp2_with fail
      refine HC.out.mono ?_
      rintro e w2 ⟨rfl, hb2⟩
      have hb3 : Below w.heap.size w w2 := hb.trans (hb2.mono hb.size)
      cases hq : q k
      · have HQ := Lib.hid hq
        clear hq
        go_wp2
        go_roundw
        case rel => exact ⟨k + 1, by omega, by go_num, fun j hj => by
          rcases Nat.lt_or_ge j k with h | h
          · exact hno.out j h
          · obtain rfl : j = k := by omega
            exact HQ.out, hb3⟩
        case measure => simp [intOf]; omega
      · have HQ := Lib.hid hq
        clear hq
        go_wp2
        go_ret
        exact ⟨ret_int (firstAt_yes hlt HQ.out hno.out).symm, hb3⟩
    · go_wp2
      go_ret
      exact ⟨ret_int (firstAt_no fun j hj => hno.out j (by omega)).symm, hb⟩

theorem containsFuncCube_any (v : Value) (vs : List Value) (g : FuncId) (lb : Array Value) (q : Nat → Bool) (w : World) (h1 : Sl w v vs) (eg : ∀ args w, (callFunc g args).run Try.prog w = .ok (.enter g args) w) (hp : AsksAt g lb vs q w) :
    Calls Try.prog 104 #[v, .func (.func g) #[] lb] w (RetB (.bool (anyAt q vs.length)) w) := by
  have HC := Lib.hid (indexFuncCube_any v vs g lb q w h1 eg hp)
  clear hp h1
  cases ha : anyAt q vs.length
  · have h := firstAt_no (anyAt_false.1 ha)
    rw [h] at HC
    clear ha h eg
    go_enter Try.func104, Try.ntmps104
    go_wp2_with fail
    refine HC.out.mono ?_
    rintro e w' ⟨rfl, hb⟩
    go_wp2
    go_ret
    exact ⟨rfl, hb⟩
  · obtain ⟨k, hk, hq⟩ := anyAt_true.1 ha
    have h : 0 ≤ firstAt q vs.length := by unfold firstAt; rw [if_pos ⟨k, hk, hq⟩]; omega
    generalize firstAt q vs.length = f at HC h
    clear ha hk hq eg
    go_enter Try.func104, Try.ntmps104
    go_wp2_with fail
    refine HC.out.mono ?_
    rintro e w' ⟨rfl, hb⟩
    go_wp2
    go_ret
    exact ⟨rfl, hb⟩

end Go.Proofs.Ytocdkeidjocmkaa
