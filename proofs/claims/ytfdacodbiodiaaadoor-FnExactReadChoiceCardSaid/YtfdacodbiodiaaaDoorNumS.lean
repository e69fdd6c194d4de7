/- The reference's number: l01Number computes numS. -/
import Derived.Test.YtfdacodbiodiaaaDoorReadLaw
import Derived.Test.YtfdacodbiodiaaaDoorRows
import Derived.Test.YtfdacodbiodiaaaDoorPush
namespace Go.Proofs.YtfdacodbiodiaaaDoor
set_option linter.unusedVariables false
set_option linter.unusedSimpArgs false
open Go.ChangeShapes Go.WideShapes Go.ChangeAt Go.RowKit

def NumRet (l : List UInt8) (w : World) (e : Ending) (w' : World) : Prop :=
  e = .returned (.tuple #[.int .i64 ((numS l).getD 0), .bool (numS l).isSome]) ∧ w' = w

theorem size_listG (s : ByteArray) : s.data.toList.length = s.size := by rw [Array.length_toList]; rfl
theorem drop_byte (s : ByteArray) (k : Nat) (h : k < s.size) : s.data.toList.drop k = s[k] :: s.data.toList.drop (k + 1) := List.drop_eq_getElem_cons (by rw [size_listG]; exact h)
theorem head_byte (s : ByteArray) (h : 0 < s.size) : s.data.toList.head? = some s[0] := by
  have := drop_byte s 0 h
  rw [List.drop_zero] at this
  rw [this]; rfl
theorem digS_no (n : Int) (c : UInt8) (r : List UInt8) (h : c.toNat < 48 ∨ 57 < c.toNat) : digS n (c :: r) = none := by
  rw [digS, if_pos (show c < 48 ∨ 57 < c from h)]
theorem digS_go (n : Int) (c : UInt8) (r : List UInt8) (h1 : 48 ≤ c.toNat) (h2 : c.toNat ≤ 57) : digS n (c :: r) = digS (n * 10 + ((c.toNat - 48 : Nat) : Int)) r := by
  rw [digS, if_neg]
  rintro (h | h)
  · exact absurd (show c.toNat < 48 from h) (by omega)
  · exact absurd (show 57 < c.toNat from h) (by omega)

theorem l01Number_any (s : ByteArray) (w : World) (hs : s.size ≤ 1048576) :
    Calls Tryd.prog 22 #[.string s] w (NumRet s.data.toList w) := by
  have hsl := size_listG s
  by_cases h1 : s.size < 1
  · have e : numS s.data.toList = none := by unfold numS; rw [if_pos (Or.inl (by omega))]
    have h1' : s.size = 0 := by omega
    unfold NumRet; rw [e]; clear e hsl
    go_enter Tryd.func22, Tryd.ntmps22
    go_wp2
    go_ret2
    exact ⟨rfl, rfl⟩
  by_cases h9 : 9 < s.size
  · have e : numS s.data.toList = none := by unfold numS; rw [if_pos (Or.inr (Or.inl (by omega)))]
    unfold NumRet; rw [e]; clear e hsl
    go_enter Tryd.func22, Tryd.ntmps22
    go_wp2
    go_ret2
    exact ⟨rfl, rfl⟩
  have hp : 0 < s.size := by omega
  have hq : s.size ≤ 9 := by omega
  have hh := head_byte s hp
  by_cases hz : (s[0].toNat : Int) = 48 ∧ 1 < s.size
  · have e : numS s.data.toList = none := by
      have h8 : s[0] = 48 := UInt8.toNat_inj.1 (by have := hz.1; show s[0].toNat = 48; omega)
      have h48 : s.data.toList.head? = some 48 := hh.trans (congrArg some h8)
      unfold numS
      rw [if_pos (Or.inr (Or.inr ⟨h48, by omega⟩))]
    obtain ⟨hz1, hz2⟩ := hz
    unfold NumRet; rw [e]; clear e hsl hh h1 h9
    go_enter Tryd.func22, Tryd.ntmps22
    go_wp2
    go_ret2
    exact ⟨rfl, rfl⟩
  have e : numS s.data.toList = digS 0 s.data.toList := by
    unfold numS
    rw [if_neg]
    rintro (h | h | h)
    · omega
    · omega
    · refine hz ⟨?_, by omega⟩
      have h2 := h.1
      rw [hh] at h2
      have : s[0] = 48 := by simpa using h2
      rw [this]; rfl
  unfold NumRet; rw [e]
  have HZ : Hid (¬ ((s[0].toNat : Int) = 48 ∧ 1 < s.size)) := hz
  have HSL := Lib.hid hsl
  have hsplit : ((s[0].toNat : Int) == 48) = false ∨ (((s[0].toNat : Int) == 48) = true ∧ s.size = 1) := by
    by_cases h : (s[0].toNat : Int) = 48
    · right; exact ⟨by simpa using h, by have := fun h2 => hz ⟨h, h2⟩; omega⟩
    · left; simpa using h
  have HD0 : Hid (digS 0 s.data.toList = digS 0 (s.data.toList.drop 0)) := rfl
  clear e hsl hh h1 h9 hz HZ
  rcases hsplit with c1 | ⟨c1, c2⟩
  all_goals
    go_enter Tryd.func22, Tryd.ntmps22
    go_wp2
    go_loop [4, 5] (fun o i => ∃ (k : Nat) (n : Int), k ≤ s.size ∧ i = .int .i64 k ∧ o = .int .i64 n ∧ 0 ≤ n ∧ n < 10 ^ k ∧ Hid (digS 0 s.data.toList = digS n (s.data.toList.drop k))) (fun _ i => s.size - (intOf i).toNat)
    case atStart => exact ⟨0, 0, Nat.zero_le _, rfl, rfl, by omega, by decide, HD0⟩
    case round =>
      obtain ⟨k, n, hk, rfl, rfl, hn0, hn1, HD⟩ := hrel
      by_cases hlt : k < s.size
      · have hdb := drop_byte s k hlt
        have hp8 : (10 : Int) ^ k ≤ 10 ^ 8 := by
          have : (10 : Nat) ^ k ≤ 10 ^ 8 := Nat.pow_le_pow_right (by omega) (by omega)
          exact_mod_cast this
        have hn8 : n < 100000000 := by omega
        have hd := HD.out
        rw [hdb] at hd
        by_cases hc : 48 ≤ s[k].toNat ∧ s[k].toNat ≤ 57
        · have b1 : (48 : Int) ≤ (s[k].toNat : Int) := by omega
          have b2 : (s[k].toNat : Int) ≤ 57 := by omega
          rw [digS_go n s[k] _ hc.1 hc.2] at hd
          have hp1 : n * 10 + ((s[k].toNat - 48 : Nat) : Int) < 10 ^ (k + 1) := by rw [Int.pow_succ]; omega
          rw [show ((s[k].toNat - 48 : Nat) : Int) = (s[k].toNat : Int) - 48 by omega] at hd hp1
          have HP := Lib.hid hp1
          have HD2 := Lib.hid hd
          clear hd hdb hp8 hn1 hc hp1
          go_wp2
          go_round
          case rel => exact ⟨k + 1, n * 10 + ((s[k].toNat : Int) - 48), by omega, by go_num, by go_num, by omega, HP.out, HD2.out⟩
          case measure => simp [intOf]; omega
        · rw [digS_no n s[k] _ (by omega)] at hd
          have HD2 := Lib.hid hd
          by_cases h48 : (s[k].toNat : Int) < 48
          · clear hd hdb hp8 hn1 hc
            go_wp2
            go_ret2
            rw [HD2.out]; exact ⟨rfl, rfl⟩
          · have h49 : (48 : Int) ≤ (s[k].toNat : Int) := by omega
            have h57 : (57 : Int) < (s[k].toNat : Int) := by omega
            clear hd hdb hp8 hn1 hc h48
            go_wp2
            go_ret2
            rw [HD2.out]; exact ⟨rfl, rfl⟩
      · obtain rfl : k = s.size := by omega
        have hd := HD.out
        rw [← HSL.out, List.drop_length] at hd
        have HD2 := Lib.hid hd
        clear hd hn1
        go_wp2
        go_ret2
        rw [HD2.out]; exact ⟨rfl, rfl⟩
end Go.Proofs.YtfdacodbiodiaaaDoor
