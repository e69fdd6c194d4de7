/- RenumberingOf of the reference: l01Fits, l01Turned. -/
import Derived.Test.YtocdkeidjocmkaaRenLaw
import Derived.Test.YtocdkeidjocmkaaPlace
import Derived.Test.YtocdkeidjocmkaaSpecOk
import Derived.Test.YtocdkeidjocmkaaGood
import Derived.Test.YtocdkeidjocmkaaBits
import Derived.BigQuiet
namespace Go.Proofs.Ytocdkeidjocmkaa
set_option linter.unusedVariables false
set_option linter.unusedSimpArgs false
open Go.ChangeShapes Go.WideShapes Go.ChangeAt Go.RowKit

/-- two automata with as many states and letters, in boxes of w0 -/
structure TwoA (w0 : World) (n m ba bb : Nat) (va vb : Value) (xss yss : List (List Int)) : Prop where
  a0 : w0.cell? ⟨ba, 0, none⟩ = some (.int .i64 n)
  a1 : w0.cell? ⟨ba, 1, none⟩ = some va
  b0 : w0.cell? ⟨bb, 0, none⟩ = some (.int .i64 n)
  b1 : w0.cell? ⟨bb, 1, none⟩ = some vb
  ra : Rows2 w0 va xss
  rb : Rows2 w0 vb yss
  ga : Good n n xss
  gb : Good n n yss
  la : xss.length = m
  lb : yss.length = m
theorem TwoA.bnd {w0 : World} {n m ba bb : Nat} {va vb : Value} {xss yss : List (List Int)} (h : TwoA w0 n m ba bb va vb xss yss) : ∀ x, x < m → ∀ i, i < n → ((yss.getD x []).getD i 0).toNat < n := fun x hx i hi => by
  have := h.gb.val (x := x) (by rw [h.lb]; exact hx) hi; omega
theorem TwoA.pos {w0 : World} {n m ba bb : Nat} {va vb : Value} {xss yss : List (List Int)} (h : TwoA w0 n m ba bb va vb xss yss) : ∀ x, x < m → ∀ i, i < n → 0 ≤ (xss.getD x []).getD i 0 := fun x hx i hi => (h.ga.val (x := x) (by rw [h.la]; exact hx) hi).1
/-- the cell of a row's number -/
theorem rows_at {w : World} {v : Value} {xss : List (List Int)} (h : Rows2 w v xss) {x : Nat} (hx : x < xss.length) {n : Nat} (hn : (xss.getD x []).length = n) (h0 : 0 < n) : ∃ ab ao ac rb ro rc, v = .slice (some ⟨ab, ao, none⟩) xss.length ac ∧ w.cell? ⟨ab, ao + x, none⟩ = some (.slice (some ⟨rb, ro, none⟩) n rc) ∧ ∀ i, i < n → w.cell? ⟨rb, ro + i, none⟩ = some (.int .i64 ((xss.getD x []).getD i 0)) := by
  obtain ⟨ad, ab, ao, ac, H⟩ := h.open
  obtain ⟨r, d, hr⟩ := H.cell x hx
  obtain ⟨rd, rb, ro, rc, R⟩ := hr.open
  have e1 := H.adr (by omega)
  have e2 := R.adr (by omega)
  refine ⟨ab, ao, ac, rb, ro, rc, by rw [H.val, e1], ?_, fun i hi => R.cell i (by omega)⟩
  rw [d, R.val, e2, hn]
/-- an order in a block of its own -/
def Ord (w0 W : World) (n g c : Nat) (o : List Int) : Prop := W.ownsRow w0.heap.size 2 1 (.slice (some ⟨g, 0, none⟩) n c) n (o.map (Value.int .i64))
theorem Ord.at {w0 W : World} {n g c : Nat} {o : List Int} (h : Ord w0 W n g c o) (hl : o.length = n) {i : Nat} (hi : i < n) : W.cell? ⟨g, i, none⟩ = some (.int .i64 (o.getD i 0)) := by
  unfold Ord at h
  subst hl
  exact own_int_at h hi
theorem Ord.reads {w0 W : World} {n g c : Nat} {o : List Int} (h : Ord w0 W n g c o) : Ints W (.slice (some ⟨g, 0, none⟩) n c) o := ints_of_own h

set_option maxRecDepth 100000 in
set_option maxHeartbeats 4000000 in
theorem l01Fits_any (w0 : World) (n m ba bb : Nat) (va vb : Value) (xss yss : List (List Int)) (HTA : TwoA w0 n m ba bb va vb xss yss) (g c : Nat) (o : List Int) (W : World) (hb : Below w0.heap.size w0 W) (ho : Ord w0 W n g c o) (hl : o.length = n) (hr : ∀ i, i < n → -1 ≤ o.getD i 0 ∧ o.getD i 0 < n) :
    Calls Try.prog 99 #[.pointer (some ⟨ba, 0, none⟩), .pointer (some ⟨bb, 0, none⟩), .slice (some ⟨g, 0, none⟩) n c] W (RetQ (.bool (fitsB xss yss n m o)) W) := by
  have hn10 := HTA.ga.hi
  have hn1 := HTA.ga.lo
  have hm3 := HTA.ga.len3
  rw [HTA.la] at hm3
  have HT := Lib.hid HTA
  have HO := Lib.hid ho
  have HR := Lib.hid hr
  have HFB : Hid (∀ i, i < n → rowFits xss yss m o i = false → fitsB xss yss n m o = false) := fun i hi hf => by
    unfold fitsB
    rw [List.all_eq_false]
    exact ⟨i, List.mem_range.2 hi, by rw [hf]; simp⟩
  have HFA : Hid ((∀ j, j < n → rowFits xss yss m o j = true) → fitsB xss yss n m o = true) := fun h => by
    unfold fitsB
    rw [List.all_eq_true]
    exact fun j hj => h j (List.mem_range.1 hj)
  clear HTA ho hr
  generalize fitsB xss yss n m o = out at HFB HFA ⊢
  go_enter Try.func99, Try.ntmps99
  go_wp2
  go_loopw [7] (fun i wr => ∃ k : Nat, k ≤ n ∧ i = .int .i64 k ∧ Hid (∀ j, j < k → rowFits xss yss m o j = true) ∧ Qu W wr) (fun i _ => n - (intOf i).toNat)
  case atStart => exact ⟨0, Nat.zero_le _, rfl, fun j hj => absurd hj (by omega), Qu.refl _⟩
  case round =>
    obtain ⟨k, hk, rfl, HF, hq⟩ := hrel
    by_cases hlt : k < n
    · have dk := hq.cell (HO.out.at hl hlt)
      have hrk := HR.out k hlt
      have i1 := idx_of Try.underlying55 size1_int (ao := some ⟨g, 0, none⟩) (b := g) (o := 0) (n := n) (c := c) (fun _ => rfl) hlt .i64
      rw [Nat.zero_add] at i1
      have HRF : Hid (rowFits xss yss m o k = (decide (o.getD k 0 < 0) || (List.range m).all fun x => okAt xss yss o k x)) := rfl
      obtain ⟨ok, hok⟩ : ∃ ok, ok = o.getD k 0 := ⟨_, rfl⟩
      rw [← hok] at dk hrk HRF
      have HOK := Lib.hid hok
      have hbq := below_trans hb (hq.below _)
      clear hok
      go_wp2
      go_loopw [8] (fun i wr => ∃ x : Nat, x ≤ m ∧ i = .int .i64 x ∧ Hid (∀ y, y < x → okAt xss yss o k y = true) ∧ Qu W wr) (fun i _ => m - (intOf i).toNat)
      case atStart => exact ⟨0, Nat.zero_le _, rfl, fun j hj => absurd hj (by omega), hq⟩
      case round =>
        obtain ⟨x, hx, rfl, HX, hq2⟩ := hrel
        have hb2 := below_trans hb (hq2.below W.heap.size)
        have dk2 := hq2.cell (HO.out.at hl hlt)
        rw [← HOK.out] at dk2
        have p0 := below_cell hb2 HT.out.a1
        have p1 := below_cell hb2 HT.out.b1
        obtain ⟨ad, mA, cA, hvA, HMA⟩ := HT.out.ra.shape
        obtain rfl : mA = m := by rw [HMA.out]; exact HT.out.la
        rw [hvA] at p0
        by_cases hneg : ok < 0
        · have hdk : decide (ok ≥ 0) = false := decide_eq_false (by omega)
          have HRT : Hid (rowFits xss yss mA o k = true) := by unfold Hid; rw [HRF.out, decide_eq_true hneg]; rfl
          have HN2 : Hid (∀ j, j < k + 1 → rowFits xss yss mA o j = true) := fun j hj => by
            rcases Nat.lt_or_ge j k with h | h
            · exact HF.out j h
            · obtain rfl : j = k := by omega
              exact HRT.out
          have hnx : Qu W wr := hq2
          by_cases hlx : x < mA
          · go_wp2
            go_roundw
            case rel => exact ⟨k + 1, by omega, by go_num, HN2.out, hnx⟩
            case measure => simp [intOf]; omega
          · go_wp2
            go_roundw
            case rel => exact ⟨k + 1, by omega, by go_num, HN2.out, hnx⟩
            case measure => simp [intOf]; omega
        · have hpos : 0 ≤ ok := by omega
          obtain ⟨kk, hkk⟩ : ∃ kk : Nat, ok = kk := ⟨ok.toNat, by omega⟩
          have HOK2 : Hid ((kk : Int) = o.getD k 0) := by unfold Hid; rw [← hkk]; exact HOK.out
          have hdk : decide (ok ≥ 0) = true := decide_eq_true hpos
          by_cases hlx : x < mA
          · obtain ⟨gb1, gb2, gb3, rb, ro, rc, hvB, e1, e2⟩ := rows_at HT.out.rb (x := x) (by rw [HT.out.lb]; exact hlx) (HT.out.gb.row (by rw [HT.out.lb]; exact hlx)) (by omega)
            rw [hvB, HT.out.lb] at p1
            replace e1 := below_cell hb2 e1
            have e3 := below_cell hb2 (e2 k hlt)
            have hz := HT.out.gb.val (x := x) (s := k) (by rw [HT.out.lb]; exact hlx) hlt
            obtain ⟨z, hzz⟩ : ∃ z : Nat, (yss.getD x []).getD k 0 = z := ⟨((yss.getD x []).getD k 0).toNat, by omega⟩
            have hzn : z < n := by omega
            rw [hzz] at e3
            have e4 := hq2.cell (HO.out.at hl hzn)
            have hrz := HR.out z hzn
            have hokat : okAt xss yss o k x = (decide (o.getD z 0 < 0) || decide (o.getD z 0 = (xss.getD x []).getD kk 0)) := by
              unfold okAt
              rw [hzz, ← HOK2.out]
              simp
            obtain ⟨ga1, ga2, ga3, sb, so, sc, hvA2, g1, g2⟩ := rows_at HT.out.ra (x := x) (by rw [HT.out.la]; exact hlx) (HT.out.ga.row (by rw [HT.out.la]; exact hlx)) (by omega)
            rw [hvA2, HT.out.la] at hvA
            injection hvA with ha1 ha2 ha3
            subst ha1 ha3
            replace g1 := below_cell hb2 g1
            have hkn : kk < n := by omega
            have g3 := below_cell hb2 (g2 kk hkn)
            obtain ⟨y, hy⟩ : ∃ y, y = (xss.getD x []).getD kk 0 := ⟨_, rfl⟩
            obtain ⟨t, ht⟩ : ∃ t, t = o.getD z 0 := ⟨_, rfl⟩
            rw [← hy, ← ht] at hokat
            rw [← hy] at g3
            rw [← ht] at e4
            have HOA := Lib.hid hokat
            have j1 := idx_of Try.underlying22 size1_ints (ao := some ⟨gb1, gb2, none⟩) (b := gb1) (o := gb2) (n := mA) (c := gb3) (fun _ => rfl) hlx .i64
            have j2 := idx_of Try.underlying55 size1_int (ao := some ⟨rb, ro, none⟩) (b := rb) (o := ro) (n := n) (c := rc) (fun _ => rfl) hlt .i64
            have j3 := idx_of Try.underlying55 size1_int (ao := some ⟨g, 0, none⟩) (b := g) (o := 0) (n := n) (c := c) (fun _ => rfl) hzn .i64
            have j4 := idx_of Try.underlying22 size1_ints (ao := some ⟨ga1, ga2, none⟩) (b := ga1) (o := ga2) (n := mA) (c := ga3) (fun _ => rfl) hlx .i64
            have j5 := idx_of Try.underlying55 size1_int (ao := some ⟨sb, so, none⟩) (b := sb) (o := so) (n := n) (c := sc) (fun _ => rfl) hkn .i64
            rw [Nat.zero_add] at j3
            subst hkk
            have HNX : Hid (okAt xss yss o k x = true → ∀ j, j < x + 1 → okAt xss yss o k j = true) := fun h j hj => by
              rcases Nat.lt_or_ge j x with h2 | h2
              · exact HX.out j h2
              · obtain rfl : j = x := by omega
                exact h
            have HNO : Hid (okAt xss yss o k x = false → out = false) := fun h => HFB.out k hlt (by
              rw [HRF.out, decide_eq_false (by omega), Bool.false_or, List.all_eq_false]
              exact ⟨x, List.mem_range.2 hlx, by rw [h]; simp⟩)
            clear hzz hy ht hokat hvB hvA2 e2 g2 dk hz
            by_cases htn : t < 0
            · have hdt : decide (t ≥ 0) = false := decide_eq_false (by omega)
              have HY : Hid (okAt xss yss o k x = true) := by unfold Hid; rw [HOA.out, decide_eq_true htn]; rfl
              clear htn
              go_wp2
              go_quiet (fail)
              go_wp2
              go_roundw
              case rel => exact ⟨x + 1, by omega, by go_num, HNX.out HY.out, hq2.drewN _⟩
              case measure => simp [intOf]; omega
            · have hdt : decide (t ≥ 0) = true := decide_eq_true (by omega)
              have ht0 : 0 ≤ t := by omega
              by_cases hty : t = y
              · have HY : Hid (okAt xss yss o k x = true) := by unfold Hid; rw [HOA.out, decide_eq_true hty]; simp
                have hbn : (t != y) = false := by simp [hty]
                clear hty htn
                go_wp2
                go_quiet (fail)
                go_wp2
                go_roundw
                case rel => exact ⟨x + 1, by omega, by go_num, HNX.out HY.out, hq2.drewN _⟩
                case measure => simp [intOf]; omega
              · have HY : Hid (okAt xss yss o k x = false) := by unfold Hid; rw [HOA.out, decide_eq_false hty, decide_eq_false htn]; rfl
                have hbn : (t != y) = true := by simp [hty]
                obtain rfl := HNO.out HY.out
                clear hty htn
                go_wp2
                go_quiet (fail)
                go_wp2
                go_ret
                exact ⟨rfl, hq2.drewN _⟩
          · obtain rfl : x = mA := by omega
            have HRT : Hid (rowFits xss yss x o k = true) := by
              unfold Hid
              rw [HRF.out, Bool.or_eq_true]
              exact .inr (List.all_eq_true.2 fun y hy => HX.out y (List.mem_range.1 hy))
            have HN2 : Hid (∀ j, j < k + 1 → rowFits xss yss x o j = true) := fun j hj => by
              rcases Nat.lt_or_ge j k with h | h
              · exact HF.out j h
              · obtain rfl : j = k := by omega
                exact HRT.out
            go_wp2
            go_roundw
            case rel => exact ⟨k + 1, by omega, by go_num, HN2.out, hq2⟩
            case measure => simp [intOf]; omega
    · obtain rfl := HFA.out (fun j hj => HF.out j (by omega))
      go_wp2
      go_ret
      exact ⟨rfl, hq⟩

end Go.Proofs.Ytocdkeidjocmkaa
