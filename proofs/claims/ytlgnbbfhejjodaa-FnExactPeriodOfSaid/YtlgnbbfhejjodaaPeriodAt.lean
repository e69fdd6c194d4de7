/- The period: what the walks of both sides keep. -/
import Derived.Test.YtlgnbbfhejjodaaPeriodLaw
import Derived.Test.YtlgnbbfhejjodaaMap
import Derived.Test.YtlgnbbfhejjodaaRank
import Derived.Test.YtlgnbbfhejjodaaConn
namespace Go.Proofs.Ytlgnbbfhejjodaa
set_option linter.unusedVariables false
set_option linter.unusedSimpArgs false
open Go.ChangeShapes Go.WideShapes Go.ChangeAt Go.RowKit

/-- how far the first n states are -/
def farL (n : Nat) (F : Int → Int) : List Int := (List.range n).map fun (u : Nat) => F (u : Int)
theorem farL_len (n : Nat) (F : Int → Int) : (farL n F).length = n := by simp [farL]
theorem farL_get {n : Nat} {F : Int → Int} {u : Nat} (h : u < n) : (farL n F).getD u 0 = F (u : Int) := by simp [farL, List.getD_eq_getElem?_getD, h]
theorem farL_get' {n : Nat} {F : Int → Int} {u : Int} (h : 0 ≤ u ∧ u < n) : (farL n F).getD u.toNat 0 = F u := by
  rw [farL_get (by omega), show ((u.toNat : Nat) : Int) = u by omega]
theorem farL_set {n : Nat} {F : Int → Int} {t : Int} (h : 0 ≤ t ∧ t < n) (y : Int) : (farL n F).set t.toNat y = farL n (fun u => if u = t then y else F u) := by
  refine List.ext_getElem (by simp [farL]) fun j h1 h2 => ?_
  have hj : j < n := by simpa [farL] using h2
  rw [List.getElem_set]
  simp only [farL, List.getElem_map, List.getElem_range]
  by_cases e : t.toNat = j
  · rw [if_pos e, if_pos (by omega)]
  · rw [if_neg e, if_neg (by omega)]
theorem farL_vals {n : Nat} {F : Int → Int} {t : Int} (h : 0 ≤ t ∧ t < n) (y : Int) : ((farL n F).map (Value.int .i64)).set t.toNat (.int .i64 y) = (farL n (fun u => if u = t then y else F u)).map (Value.int .i64) := by
  rw [← farL_set h, List.map_set]
theorem farL_zero (n : Nat) : (farL n fun _ => 0) = List.replicate n 0 := by
  refine List.ext_getElem (by simp [farL]) fun j h1 h2 => ?_
  simp [farL]

/-- the map holds how far the states met are -/
def FarAt (F : Lit → Option Value) (p : PState) : Prop := ∀ u : Int, F (.int .i64 u) = if u ∈ p.1 then some (.int .i64 (p.2 u)) else none
theorem FarAt.start (xss : List (List Int)) : FarAt (putF (fun _ => none) (.int .i64 0) (.int .i64 0)) (pTo xss 0) := by
  intro u
  rw [putF_int]
  simp only [pTo, List.mem_singleton]
theorem FarAt.put {F : Lit → Option Value} {p : PState} (h : FarAt F p) {z t : Int} (hn : t ∉ p.1) : FarAt (putF F (.int .i64 t) (.int .i64 (p.2 z + 1))) (pAdd p z t) := by
  intro u
  unfold pAdd
  rw [if_neg hn, putF_int]
  by_cases e : u = t
  · subst e; simp
  · rw [if_neg e, h u]
    have : u ∈ p.1 ++ [t] ↔ u ∈ p.1 := by simp [e]
    by_cases hu : u ∈ p.1
    · rw [if_pos hu, if_pos (this.2 hu)]; simp [e]
    · rw [if_neg hu, if_neg (fun h => hu (this.1 h))]
theorem pAdd_in {p : PState} {z t : Int} (h : t ∈ p.1) : pAdd p z t = p := if_pos h
theorem pAdd_out {p : PState} {z t : Int} (h : t ∉ p.1) : (pAdd p z t).1 = p.1 ++ [t] := by unfold pAdd; rw [if_neg h]
theorem pAdd_outF {p : PState} {z t : Int} (h : t ∉ p.1) : (pAdd p z t).2 = fun u => if u = t then p.2 z + 1 else p.2 u := by unfold pAdd; rw [if_neg h]
theorem pAdd_mem (p : PState) (z t : Int) : t ∈ (pAdd p z t).1 := by
  by_cases h : t ∈ p.1
  · rw [pAdd_in h]; exact h
  · rw [pAdd_out h]; simp

/-- the greatest common divisor when the first k states have been served -/
def gTo (xss : List (List Int)) : Nat → Nat
  | 0 => 0
  | k + 1 => gRow (pdF xss) xss ((pTo xss k).1.getD k 0) (gTo xss k) xss.length
theorem gTo_eq (xss : List (List Int)) : ∀ k, k ≤ (pTo xss k).1.length → gTo xss k = gList (pdF xss) xss ((pTo xss k).1.take k) := by
  intro k
  induction k with
  | zero => intro _; simp [gTo, gList]
  | succ k ih =>
    intro h
    have hk : k < (pTo xss k).1.length := by
      rcases Nat.lt_or_ge k (pTo xss k).1.length with h' | h'
      · exact h'
      · have := pTo_stop h' 1
        rw [this] at h; omega
    obtain ⟨m, e⟩ := (PExt.to xss k (k + 1) (by omega)).pre
    rw [gTo, ih (by omega), ← gList_snoc, e]
    congr 1
    rw [List.take_append_of_le_length (by omega), List.take_succ_eq_append_getElem hk]
    simp [List.getD_eq_getElem?_getD, hk]
theorem gTo_end {n : Nat} {st : Int} {xss : List (List Int)} {k : Nat} (hg : Good st n xss) (h : (rcZs xss 0).length = n) (hk : (pTo xss k).1.length = k) (hi : k ≤ 1024) : gTo xss k = pdG xss n := by
  rw [gTo_eq xss k (by omega), List.take_of_length_le (by omega), pEnd_stop (by omega) hi]
  exact pd_perm hg h

theorem tmod_small {a b : Int} (hb : b ≠ 0) (h : -1000 ≤ b ∧ b ≤ 1000) : -1000 ≤ a.tmod b ∧ a.tmod b ≤ 1000 ∧ (a.tmod b).natAbs < b.natAbs := by
  have h1 : (a.tmod b).natAbs < b.natAbs := by
    rw [Int.natAbs_tmod]
    exact Nat.mod_lt _ (by omega)
  omega

set_option maxHeartbeats 1000000 in
theorem divisor_any (a b : Int) (w : World) (ha : -1000 ≤ a ∧ a ≤ 1000) (hb : -1000 ≤ b ∧ b ≤ 1000) :
    Calls Try.prog 129 #[.int .i64 a, .int .i64 b] w (RetB (.int .i64 (Nat.gcd a.natAbs b.natAbs : Nat)) w) := by
  obtain ⟨g, hg⟩ : ∃ g, g = Nat.gcd a.natAbs b.natAbs := ⟨_, rfl⟩
  rw [← hg]
  have HG := Lib.hid hg.symm
  clear hg
  go_enter Try.func129, Try.ntmps129
  go_wp2
  go_loopw [0, 1] (fun u v wr => ∃ x y : Int, u = .int .i64 x ∧ v = .int .i64 y ∧ Hid (Nat.gcd x.natAbs y.natAbs = g) ∧ (-1000 ≤ x ∧ x ≤ 1000) ∧ (-1000 ≤ y ∧ y ≤ 1000) ∧ Below w.heap.size w wr) (fun _ v _ => (intOf v).natAbs)
  case atStart => exact ⟨a, b, rfl, rfl, HG.out, ha, hb, Below.refl _ _⟩
  case round =>
    obtain ⟨x, y, rfl, rfl, HX, hx, hy, hb2⟩ := hrel
    by_cases h0 : y = 0
    · subst h0
      have e : (if x < -x then -x else x) = (g : Int) := by
        have := HX.out
        rw [Int.natAbs_zero, Nat.gcd_zero_right] at this
        split <;> omega
      have e2 : Hid (max x (-x) = (g : Int)) := by
        have := HX.out
        rw [Int.natAbs_zero, Nat.gcd_zero_right] at this
        unfold Hid
        omega
      have hn : IntKind.i64.wrap (-x) = -x := IntWalk.i64_in _ (by omega)
      go_wp2
      go_ret
      exact ⟨congrArg (fun z => Ending.returned (.int .i64 z)) e2.out, hb2⟩
    · obtain ⟨h1, h2, h3⟩ := tmod_small (a := x) h0 hy
      have HT : Hid (Nat.gcd y.natAbs (x.tmod y).natAbs = g) := (gcd_tmod x y).trans HX.out
      obtain ⟨r, hr⟩ : ∃ r, r = x.tmod y := ⟨_, rfl⟩
      rw [← hr] at HT h1 h2 h3
      have HR := Lib.hid hr
      have hrb : IntKind.i64.wrap (x.tmod y) = r := by rw [hr]; exact IntWalk.i64_in _ (by omega)
      have hyn : (y != 0) = true := by simp [h0]
      go_wp2
      go_quiet (fail)
      go_wp2
      go_roundw
      case rel => exact ⟨y, r, rfl, by first | rfl | (rw [hrb]) | (rw [HR.out]), HT.out, hy, ⟨h1, h2⟩, by first | exact hb2 | exact below_drewN' hb2 _⟩
      case measure => show (x.tmod y).natAbs < y.natAbs; rw [← HR.out]; exact h3

set_option maxHeartbeats 1000000 in
theorem l01Gcd_any (a b : Nat) (w : World) (ha : a ≤ 1000) (hb : b ≤ 1000) :
    Calls Try.prog 128 #[.int .i64 (a : Int), .int .i64 (b : Int)] w (RetB (.int .i64 (Nat.gcd a b : Nat)) w) := by
  obtain ⟨g, hg⟩ : ∃ g, g = Nat.gcd a b := ⟨_, rfl⟩
  rw [← hg]
  have HG := Lib.hid hg.symm
  clear hg
  go_enter Try.func128, Try.ntmps128
  go_wp2
  go_loopw [0, 1, 5] (fun u v _ wr => ∃ x y : Nat, u = .int .i64 (x : Int) ∧ v = .int .i64 (y : Int) ∧ Hid (Nat.gcd x y = g) ∧ x ≤ 1000 ∧ y ≤ 1000 ∧ Below w.heap.size w wr) (fun _ v _ _ => (intOf v).natAbs)
  case atStart => exact ⟨a, b, rfl, rfl, HG.out, ha, hb, Below.refl _ _⟩
  case round =>
    obtain ⟨x, y, rfl, rfl, HX, hx, hy, hb2⟩ := hrel
    by_cases h0 : y = 0
    · subst h0
      have e : Hid (x = g) := by have := HX.out; rw [Nat.gcd_zero_right] at this; exact this
      go_wp2
      go_ret
      exact ⟨by rw [e.out]; rfl, hb2⟩
    · have h1 : x % y < y := Nat.mod_lt _ (by omega)
      have HT : Hid (Nat.gcd y (x % y) = g) := by
        unfold Hid
        rw [Nat.gcd_comm, ← Nat.gcd_rec, Nat.gcd_comm]
        exact HX.out
      have hr : ((x : Int).tmod (y : Int)) = ((x % y : Nat) : Int) := by rw [Int.tmod_eq_emod_of_nonneg (by omega)]; simp
      obtain ⟨r, hr2⟩ : ∃ r, r = x % y := ⟨_, rfl⟩
      rw [← hr2] at HT h1 hr
      have HR := Lib.hid hr2
      have hrb : IntKind.i64.wrap ((x : Int).tmod (y : Int)) = (r : Int) := by rw [hr]; exact IntWalk.i64_in _ (by omega)
      have hy0 : ¬ (y : Int) = 0 := by omega
      clear hr2
      go_wp2
      go_roundw
      case rel => exact ⟨y, r, rfl, by first | rfl | go_num, HT.out, hy, by omega, hb2⟩
      case measure => simp [intOf]; omega

end Go.Proofs.Ytlgnbbfhejjodaa
