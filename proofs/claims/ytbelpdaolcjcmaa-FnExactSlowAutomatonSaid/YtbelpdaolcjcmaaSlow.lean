/- SlowAutomaton, of the reference and of the program. -/
import Derived.Test.YtbelpdaolcjcmaaReadWord
import Derived.Test.YtbelpdaolcjcmaaHelp2
namespace Go.Proofs.Ytbelpdaolcjcmaa
set_option linter.unusedVariables false
set_option linter.unusedSimpArgs false
open Go.ChangeShapes Go.WideShapes Go.ChangeAt Go.RowKit

/-- it returns a new struct of a number and rows, and a code -/
def NewAuto2 (st : Int) (xss : List (List Int)) (code : Int) (w : World) (e : Ending) (w' : World) : Prop :=
  ∃ v rs, e = .returned (.tuple #[.agg #[.int .i64 st, v], .int .i64 code]) ∧ OwnRows w' w.heap.size v rs xss ∧ Below w.heap.size w w'

theorem rows_pair {w : World} {lo : Nat} {v1 v2 : Value} {x1 x2 : List Int} (h1 : w.ownsRow lo 2 1 v1 x1.length (x1.map (Value.int .i64))) (h2 : w.ownsRow lo 2 1 v2 x2.length (x2.map (Value.int .i64)))
    (ha : v1.ownBlock = none ∨ v1.ownBlock ≠ v2.ownBlock) (hl : lo ≤ w.heap.size) : OwnRows (w.alloc (.cells #[v1, v2] 27)) lo (.slice (some ⟨w.heap.size, 0, none⟩) 2 2) [v1, v2] [x1, x2] := by
  refine ⟨World.ownsRow_lit w #[v1, v2] 2 hl (by unfold maxLen; omega) (by simp), fun k hk => ?_, fun i j hij hj => ?_⟩
  · match k, hk with
    | 0, _ => exact h1.alloc _
    | 1, _ => exact h2.alloc _
  · have : i = 0 ∧ j = 1 := by simp at hj; omega
    obtain ⟨rfl, rfl⟩ := this
    exact ha

theorem ownRows_nil (w : World) (lo : Nat) : OwnRows w lo (.slice none 0 0) [] [] := ⟨World.ownsRow_nil _ _ _ _, fun k hk => by simp at hk, fun i j _ hj => by simp at hj⟩

def slowTurn (m k : Nat) : List Int := (List.range k).map fun (s : Nat) => ((s : Int) + 1) % (m : Int)
def slowStay (m k : Nat) : List Int := (List.range k).map fun (s : Nat) => (s : Int) % ((m : Int) - 1)
theorem slowTurn_succ (m k : Nat) : (slowTurn m k).map (Value.int .i64) ++ [.int .i64 (((k : Int) + 1) % (m : Int))] = (slowTurn m (k + 1)).map (Value.int .i64) := by unfold slowTurn; rw [List.range_succ, List.map_append, List.map_append]; rfl
theorem slowStay_succ (m k : Nat) : (slowStay m k).map (Value.int .i64) ++ [.int .i64 ((k : Int) % ((m : Int) - 1))] = (slowStay m (k + 1)).map (Value.int .i64) := by unfold slowStay; rw [List.range_succ, List.map_append, List.map_append]; rfl
theorem slowTurn_len (m k : Nat) : (slowTurn m k).length = k := by simp [slowTurn]
theorem slowStay_len (m k : Nat) : (slowStay m k).length = k := by simp [slowStay]

theorem l02Slow_any (m : Nat) (w : World) (h2 : 2 ≤ m) (h10 : m ≤ 10) :
    Calls Try.prog 52 #[.int .i64 (m : Int)] w (NewAuto m [slowTurn m m, slowStay m m] w) := by
  have hA := own_empty (w.alloc (.cells #[.int .i64 0, .slice none 0 0] 38)) (w.heap.size + 1) (by simp)
  have hB := own_empty ((w.alloc (.cells #[.int .i64 0, .slice none 0 0] 38)).alloc (.cells #[] 2)) (w.heap.size + 1) (by simp)
  have HA := Lib.hid (hA.alloc (.cells #[] 2))
  have HB := Lib.hid hB
  clear hA hB
  go_enter Try.func52, Try.ntmps52
  go_wp2
  go_loopw [3, 4, 5] (fun u v i wr => ∃ k : Nat, k ≤ m ∧ i = .int .i64 k ∧ Hid (wr.ownsRow (w.heap.size + 1) 2 1 u k ((slowTurn m k).map (Value.int .i64))) ∧ Hid (wr.ownsRow (w.heap.size + 1) 2 1 v k ((slowStay m k).map (Value.int .i64))) ∧ Hid (u.ownBlock = none ∨ u.ownBlock ≠ v.ownBlock)
      ∧ Below (w.heap.size + 1) (w.alloc (.cells #[.int .i64 0, .slice none 0 0] 38)) wr) (fun _ _ i _ => m - (intOf i).toNat)
  case atStart =>
    refine ⟨0, Nat.zero_le _, rfl, ?_, ?_, ?_, ((Below.refl _ _).alloc (by simp) _).alloc (by simp) _⟩
    · simpa [Hid, slowTurn] using HA.out
    · simpa [Hid, slowStay] using HB.out
    · right; simp [Value.ownBlock]
  case round =>
    obtain ⟨k, hk, rfl, HU, HV, HAP, hb⟩ := hrel
    have hbs : w.heap.size + 1 ≤ wr.heap.size := by have := hb.size; simp at this; omega
    by_cases hlt : k < m
    · go_wp2_with (first | (at_builtin; refine wpList_push elem_int rfl (.tmp 13) (.tmp 18) rfl (w.heap.size + 1) rfl HU.out _ rfl rfl (by unfold maxLen; omega) (by omega) hbs ?_; intro u1 w1 hu1 hg1 hs1) | (at_builtin; refine wpList_push elem_int rfl (.tmp 20) (.tmp 25) rfl (w.heap.size + 1) rfl (push_other hg1 hs1 HV.out (apart_symm HAP.out)).1 _ rfl rfl (by unfold maxLen; omega) (by omega) (Nat.le_trans hbs hg1.size) ?_; intro u2 w2 hu2 hg2 hs2))
      have hpo := push_other hg1 hs1 HV.out (apart_symm HAP.out)
      have hpo2 := push_other hg2 hs2 hu1 (apart_symm hpo.2)
      have hb1 : Below (w.heap.size + 1) (w.alloc (.cells #[.int .i64 0, .slice none 0 0] 38)) w1 := Below.grown hb hg1 hbs (fun g hg => (own_block HU.out hg).1)
      have hb2 : Below (w.heap.size + 1) (w.alloc (.cells #[.int .i64 0, .slice none 0 0] 38)) w2 := Below.grown hb1 hg2 (Nat.le_trans hbs hg1.size) (fun g hg => (own_block hpo.1 hg).1)
      rw [slowStay_succ] at hu2
      rw [slowTurn_succ] at hpo2
      have HU2 := Lib.hid hu2
      have HPO := Lib.hid hpo2
      clear hu1 hu2 hg1 hg2 hs1 hs2 hpo hpo2 hb hb1
      go_wp2
      go_roundw
      case rel => exact ⟨k + 1, by omega, by go_num, HPO.out.1, HU2.out, HPO.out.2, hb2⟩
      case measure => simp [intOf]; omega
    · obtain rfl : k = m := by omega
      obtain ⟨au, mu, cu, rfl, HMu⟩ := own_shape HU.out
      obtain ⟨av, mv, cv, rfl, HMv⟩ := own_shape HV.out
      have hu := HU.out
      have hv := HV.out
      have hrows := rows_pair (w := (wr.setCell ⟨w.heap.size, 0, none⟩ (.int .i64 k)).setCell ⟨w.heap.size, 1, none⟩ (.slice (some ⟨wr.heap.size, 0, none⟩) 2 2)) (lo := w.heap.size + 1) (x1 := slowTurn k k) (x2 := slowStay k k)
        (by rw [slowTurn_len]; exact ownsRow_setCell_below (ownsRow_setCell_below hu (by simp) _) (by simp) _) (by rw [slowStay_len]; exact ownsRow_setCell_below (ownsRow_setCell_below hv (by simp) _) (by simp) _) HAP.out (by simpa using hbs)
      rw [show ((wr.setCell ⟨w.heap.size, 0, none⟩ (.int .i64 k)).setCell ⟨w.heap.size, 1, none⟩ (.slice (some ⟨wr.heap.size, 0, none⟩) 2 2)).heap.size = wr.heap.size by simp] at hrows
      have HR := Lib.hid hrows
      have hbw : Below w.heap.size w wr := (below_alloc (Below.refl _ _) _).trans (hb.mono (by omega))
      have c0 : wr.cell? ⟨w.heap.size, 0, none⟩ = some (.int .i64 0) := (hb.cell (by simp)).trans (by go_simp)
      have c1 : wr.cell? ⟨w.heap.size, 1, none⟩ = some (.slice none 0 0) := (hb.cell (by simp)).trans (by go_simp)
      have f0 : wr.frozen? ⟨w.heap.size, 0, none⟩ = false := (hb.frozen (by simp)).trans (by go_simp)
      have f1 : wr.frozen? ⟨w.heap.size, 1, none⟩ = false := (hb.frozen (by simp)).trans (by go_simp)
      have hz : w.heap.size < wr.heap.size := by omega
      clear hu hv hrows
      go_wp2
      refine bodyPost_ret (v := .agg #[.int .i64 k, .slice (some ⟨wr.heap.size, 0, none⟩) 2 2]) (by simp [results, Try.results52, go_sem, hz, c0, c1]) rfl ⟨_, [.slice au mu cu, .slice av mv cv], rfl, HR.out.mono (by omega), below_alloc (below_set (below_set hbw (Nat.le_refl _) _ _) (Nat.le_refl _) _ _) _⟩

def slowSt (n : Int) : Int := if inB n 2 10 = true then n else 0
def slowCd (n : Int) : Int := if inB n 2 10 = true then 0 else 2
def slowRows (n : Int) : List (List Int) := if inB n 2 10 = true then [slowTurn n.toNat n.toNat, slowStay n.toNat n.toNat] else []

theorem specSlow_any (n : Int) (w : World) :
    Calls Try.prog 26 #[.int .i64 n] w (NewAuto2 (slowSt n) (slowRows n) (slowCd n) w) := by
  have HI := Lib.hid (fun W => l00In_any n 2 10 W)
  cases hin : inB n 2 10
  · rw [show slowSt n = 0 by simp [slowSt, hin], show slowRows n = [] by simp [slowRows, hin], show slowCd n = 2 by simp [slowCd, hin]]
    rw [hin] at HI
    clear hin
    go_enter Try.func26, Try.ntmps26
    go_wp2_with fail
    refine (HI.out _).mono ?_
    rintro e w2 ⟨rfl, rfl⟩
    go_wp2
    exact bodyPost_ret (v := .tuple #[.agg #[.int .i64 0, .slice none 0 0], .int .i64 2]) (by simp [results, Try.results26, go_sem]) rfl ⟨_, [], rfl, ownRows_nil _ _, by repeat (first | exact Below.refl _ _ | refine below_alloc ?_ _ | refine below_set ?_ (by first | omega | simp) _ _)⟩
  · rw [show slowSt n = n by simp [slowSt, hin], show slowRows n = [slowTurn n.toNat n.toNat, slowStay n.toNat n.toNat] by simp [slowRows, hin], show slowCd n = 0 by simp [slowCd, hin]]
    rw [hin] at HI
    obtain ⟨h2, h10⟩ := inB_true.1 hin
    obtain ⟨m, rfl⟩ := Int.eq_ofNat_of_zero_le (show 0 ≤ n by omega)
    rw [Int.toNat_natCast]
    have HL := Lib.hid (fun W => l02Slow_any m W (by omega) (by omega))
    clear hin h2 h10
    go_enter Try.func26, Try.ntmps26
    go_wp2_with fail
    refine (HI.out _).mono ?_
    rintro e w2 ⟨rfl, rfl⟩
    go_wp2_with fail
    refine (HL.out _).mono ?_
    rintro e w2 ⟨v, rs, rfl, ho, hb⟩
    obtain ⟨av, mv, cv, rfl, HMv⟩ := own_shape ho.outer
    obtain ⟨hc, hf⟩ := bcell hb
    have hz : w.heap.size < w2.heap.size := by have := hb.size; simp at this; omega
    go_wp2
    refine bodyPost_ret (v := .tuple #[.agg #[.int .i64 m, .slice av mv cv], .int .i64 0]) (by simp [results, Try.results26, go_sem, hc, hz]) rfl ⟨_, rs, rfl, ?_, ?_⟩
    · refine OwnRows.mono (lo := w.heap.size + 1) ?_ (by omega)
      repeat (first | refine OwnRows.set_below ?_ (by first | omega | simp) _ _)
      simpa using ho
    · repeat (first | exact Below.refl _ _ | refine below_alloc ?_ _ | refine below_set ?_ (by first | omega | simp) _ _ | refine below_trans ?_ hb)

def slowIds (k : Nat) : List Int := (List.range k).map fun (s : Nat) => (s : Int)
theorem slowIds_succ (k : Nat) : (slowIds k).map (Value.int .i64) ++ [.int .i64 (k : Int)] = (slowIds (k + 1)).map (Value.int .i64) := by unfold slowIds; rw [List.range_succ, List.map_append, List.map_append]; rfl
theorem slowIds_set (m : Nat) (h : 2 ≤ m) : (slowIds m).set (m - 1) 0 = slowStay m m := by
  apply List.ext_getElem
  · simp [slowIds, slowStay]
  · intro j h1 h2
    have hj : j < m := by simpa [slowIds] using h1
    rw [List.getElem_set]
    simp only [slowIds, slowStay, List.getElem_map, List.getElem_range]
    split
    · rename_i e
      subst e
      rw [show ((m - 1 : Nat) : Int) = (m : Int) - 1 by omega, Int.emod_self]
    · rw [Int.emod_eq_of_lt (by omega) (by omega)]

theorem implSlow_any (n : Int) (w : World) :
    Calls Try.prog 27 #[.int .i64 n] w (NewAuto2 (slowSt n) (slowRows n) (slowCd n) w) := by
  have HI := Lib.hid (fun W => within_any n 2 10 W)
  cases hin : inB n 2 10
  · rw [show slowSt n = 0 by simp [slowSt, hin], show slowRows n = [] by simp [slowRows, hin], show slowCd n = 2 by simp [slowCd, hin]]
    rw [hin] at HI
    clear hin
    go_enter Try.func27, Try.ntmps27
    go_wp2_with fail
    refine (HI.out _).mono ?_
    rintro e w2 ⟨rfl, rfl⟩
    go_wp2
    exact bodyPost_ret (v := .tuple #[.agg #[.int .i64 0, .slice none 0 0], .int .i64 2]) (by simp [results, Try.results27, go_sem]) rfl ⟨_, [], rfl, ownRows_nil _ _, by repeat (first | exact Below.refl _ _ | refine below_alloc ?_ _ | refine below_set ?_ (by first | omega | simp) _ _)⟩
  · rw [show slowSt n = n by simp [slowSt, hin], show slowRows n = [slowTurn n.toNat n.toNat, slowStay n.toNat n.toNat] by simp [slowRows, hin], show slowCd n = 0 by simp [slowCd, hin]]
    rw [hin] at HI
    obtain ⟨h2, h10⟩ := inB_true.1 hin
    obtain ⟨m, rfl⟩ := Int.eq_ofNat_of_zero_le (show 0 ≤ n by omega)
    rw [Int.toNat_natCast]
    have h2' : 2 ≤ m := by omega
    have h10' : m ≤ 10 := by omega
    clear hin h2 h10
    have hA := own_empty (w.alloc (.cells #[.int .i64 0, .slice none 0 0] 38)) (w.heap.size + 1) (by simp)
    have hB := own_empty ((w.alloc (.cells #[.int .i64 0, .slice none 0 0] 38)).alloc (.cells #[] 2)) (w.heap.size + 1) (by simp)
    have HA := Lib.hid (hA.alloc (.cells #[] 2))
    have HB := Lib.hid hB
    clear hA hB
    go_enter Try.func27, Try.ntmps27
    go_wp2_with fail
    refine (HI.out _).mono ?_
    rintro e w2 ⟨rfl, rfl⟩
    go_wp2
    go_loopw [4, 5, 6, 14] (fun u v _ i wr => ∃ k : Nat, k ≤ m ∧ i = .int .i64 k ∧ Hid (wr.ownsRow (w.heap.size + 1) 2 1 u k ((slowTurn m k).map (Value.int .i64))) ∧ Hid (wr.ownsRow (w.heap.size + 1) 2 1 v k ((slowIds k).map (Value.int .i64))) ∧ Hid (u.ownBlock = none ∨ u.ownBlock ≠ v.ownBlock)
        ∧ Below (w.heap.size + 1) (w.alloc (.cells #[.int .i64 0, .slice none 0 0] 38)) wr) (fun _ _ _ i _ => m - (intOf i).toNat)
    case atStart =>
      refine ⟨0, Nat.zero_le _, rfl, ?_, ?_, ?_, ((Below.refl _ _).alloc (by simp) _).alloc (by simp) _⟩
      · simpa [Hid, slowTurn] using HA.out
      · simpa [Hid, slowIds] using HB.out
      · right; simp [Value.ownBlock]
    case round =>
      obtain ⟨k, hk, rfl, HU, HV, HAP, hb⟩ := hrel
      have hbs : w.heap.size + 1 ≤ wr.heap.size := by have := hb.size; simp at this; omega
      by_cases hlt : k < m
      · go_wp2_with (first | (at_builtin; refine wpList_push elem_int rfl (.tmp 17) (.tmp 22) rfl (w.heap.size + 1) rfl HU.out _ rfl rfl (by unfold maxLen; omega) (by omega) hbs ?_; intro u1 w1 hu1 hg1 hs1) | (at_builtin; refine wpList_push elem_int rfl (.tmp 24) (.tmp 26) rfl (w.heap.size + 1) rfl (push_other hg1 hs1 HV.out (apart_symm HAP.out)).1 _ rfl rfl (by unfold maxLen; omega) (by omega) (Nat.le_trans hbs hg1.size) ?_; intro u2 w2 hu2 hg2 hs2))
        have hpo := push_other hg1 hs1 HV.out (apart_symm HAP.out)
        have hpo2 := push_other hg2 hs2 hu1 (apart_symm hpo.2)
        have hb1 : Below (w.heap.size + 1) (w.alloc (.cells #[.int .i64 0, .slice none 0 0] 38)) w1 := Below.grown hb hg1 hbs (fun g hg => (own_block HU.out hg).1)
        have hb2 : Below (w.heap.size + 1) (w.alloc (.cells #[.int .i64 0, .slice none 0 0] 38)) w2 := Below.grown hb1 hg2 (Nat.le_trans hbs hg1.size) (fun g hg => (own_block hpo.1 hg).1)
        rw [slowIds_succ] at hu2
        rw [slowTurn_succ] at hpo2
        have HU2 := Lib.hid hu2
        have HPO := Lib.hid hpo2
        clear hu1 hu2 hg1 hg2 hs1 hs2 hpo hpo2 hb hb1
        go_wp2
        go_roundw
        case rel => exact ⟨k + 1, by omega, by go_num, HPO.out.1, HU2.out, HPO.out.2, hb2⟩
        case measure => simp [intOf]; omega
      · obtain rfl : k = m := by omega
        obtain ⟨au, mu, cu, rfl, HMu⟩ := own_shape HU.out
        obtain ⟨gv, cv, rfl, hcv⟩ := own_some HV.out (by omega)
        have hv := HV.out
        have hgv := own_block hv rfl
        have i1 : ∀ W, (Instr.indexAt 27 (.slice (some ⟨gv, 0, none⟩) k cv) (.int .i64 ((k : Int) - 1))).run Try.prog W = .ok (.pointer (some ⟨gv, 0 + (k - 1), none⟩)) W := by
          have := idx_of Try.underlying27 size1_int (ao := some ⟨gv, 0, none⟩) (b := gv) (o := 0) (n := k) (c := cv) (fun _ => rfl) (k := k - 1) (by omega) .i64
          rwa [show (((k - 1 : Nat) : Int)) = (k : Int) - 1 by omega] at this
        rw [Nat.zero_add] at i1
        have hcell := hv.cellAt (k - 1) (by omega)
        have hsome : (wr.cell? ⟨gv, k - 1, none⟩).isSome = true := by rw [hcell]; simp [slowIds]; omega
        obtain ⟨x, hx⟩ := Option.isSome_iff_exists.1 hsome
        have hfr := hv.frozenAt (k - 1)
        have hst := hv.stored (k - 1) (.int .i64 0)
        rw [← List.map_set, slowIds_set k h2'] at hst
        have hu2 := HU.out.kept hst.2 HAP.out
        have hb3 : Below (w.heap.size + 1) (w.alloc (.cells #[.int .i64 0, .slice none 0 0] 38)) (wr.setCell ⟨gv, k - 1, none⟩ (.int .i64 0)) := hb.setCell (p := ⟨gv, k - 1, none⟩) hgv.1 _
        have hbw : Below w.heap.size w (wr.setCell ⟨gv, k - 1, none⟩ (.int .i64 0)) := (below_alloc (Below.refl _ _) _).trans (hb3.mono (by omega))
        have hrows := rows_pair (w := ((wr.setCell ⟨gv, k - 1, none⟩ (.int .i64 0)).setCell ⟨w.heap.size, 0, none⟩ (.int .i64 k)).setCell ⟨w.heap.size, 1, none⟩ (.slice (some ⟨wr.heap.size, 0, none⟩) 2 2)) (lo := w.heap.size + 1) (x1 := slowTurn k k) (x2 := slowStay k k)
          (by rw [slowTurn_len]; exact ownsRow_setCell_below (ownsRow_setCell_below hu2 (by simp) _) (by simp) _) (by rw [slowStay_len]; exact ownsRow_setCell_below (ownsRow_setCell_below hst.1 (by simp) _) (by simp) _) HAP.out (by simpa using hbs)
        rw [show (((wr.setCell ⟨gv, k - 1, none⟩ (.int .i64 0)).setCell ⟨w.heap.size, 0, none⟩ (.int .i64 k)).setCell ⟨w.heap.size, 1, none⟩ (.slice (some ⟨wr.heap.size, 0, none⟩) 2 2)).heap.size = wr.heap.size by simp] at hrows
        have HR := Lib.hid hrows
        have c0 : wr.cell? ⟨w.heap.size, 0, none⟩ = some (.int .i64 0) := (hb.cell (by simp)).trans (by go_simp)
        have c1 : wr.cell? ⟨w.heap.size, 1, none⟩ = some (.slice none 0 0) := (hb.cell (by simp)).trans (by go_simp)
        have f0 : wr.frozen? ⟨w.heap.size, 0, none⟩ = false := (hb.frozen (by simp)).trans (by go_simp)
        have f1 : wr.frozen? ⟨w.heap.size, 1, none⟩ = false := (hb.frozen (by simp)).trans (by go_simp)
        have hz : w.heap.size < wr.heap.size := by omega
        have hgne : w.heap.size < gv := hgv.1
        have hgne2 : gv ≠ w.heap.size := by omega
        have hgne3 : w.heap.size ≠ gv := by omega
        clear hv hrows hcell hst hu2 hgv
        go_wp2
        exact bodyPost_ret (v := .tuple #[.agg #[.int .i64 k, .slice (some ⟨wr.heap.size, 0, none⟩) 2 2], .int .i64 0]) (by simp [results, Try.results27, go_sem, hz, c0, c1, hgne2, hgne3]) rfl ⟨_, [.slice au mu cu, .slice (some ⟨gv, 0, none⟩) k cv], rfl, HR.out.mono (by omega), below_alloc (below_set (below_set hbw (Nat.le_refl _) _ _) (Nat.le_refl _) _ _) _⟩

end Go.Proofs.Ytbelpdaolcjcmaa
