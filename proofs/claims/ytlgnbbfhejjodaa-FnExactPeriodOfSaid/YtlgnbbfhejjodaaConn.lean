/- IsConnected, of the reference and of the program. -/
import Derived.Test.YtlgnbbfhejjodaaReach
import Derived.Test.YtlgnbbfhejjodaaReachSpec
import Derived.Test.YtlgnbbfhejjodaaRank
import Derived.Deep.RegionHeld3
namespace Go.Proofs.Ytlgnbbfhejjodaa
set_option linter.unusedVariables false
set_option linter.unusedSimpArgs false
open Go.ChangeShapes Go.WideShapes Go.ChangeAt Go.RowKit

def icOk (st : Int) (xss : List (List Int)) : Bool := validB st xss && joinedB xss st.toNat

set_option maxRecDepth 100000 in
set_option maxHeartbeats 4000000 in
theorem isConn_any (v : Value) (xss : List (List Int)) (n : Nat) (w : World) (h1 : Rows2 w v xss) (hg : Good n n xss) :
    Calls Try.prog 90 #[.agg #[.int .i64 n, v]] w (RetB (.bool (joinedB xss n)) w) := by
  have hn10 := hg.hi
  obtain ⟨ao, m, c, rfl, HM⟩ := h1.shape
  have HRE := Lib.hid (fun (s : Nat) (hs : s < n) W (hW : Below w.heap.size w W) => reached_any n _ xss n s W (h1.kept hW) hg ⟨by omega, by omega⟩)
  have HLE := Lib.hid (fun (s : Nat) (hs : s < n) => rcZs_len hg (s := (s : Int)) ⟨by omega, by omega⟩)
  have HNO := Lib.hid (fun (s : Nat) (hs : s < n) h => joined_no (xss := xss) hs h)
  have HYE := Lib.hid (fun h => joined_yes (xss := xss) (n := n) h)
  obtain ⟨bb, hbb⟩ : ∃ bb, bb = joinedB xss n := ⟨_, rfl⟩
  rw [← hbb]
  rw [← hbb] at HNO HYE
  have bx : Below w.heap.size w (w.alloc (.cells #[.int .i64 n, .slice ao m c] 28)) := below_alloc (Below.refl _ _) _
  have p0 : (w.alloc (.cells #[.int .i64 n, .slice ao m c] 28)).cell? ⟨w.heap.size, 0, none⟩ = some (.int .i64 n) := by go_simp
  have p1 : (w.alloc (.cells #[.int .i64 n, .slice ao m c] 28)).cell? ⟨w.heap.size, 1, none⟩ = some (.slice ao m c) := by go_simp
  clear h1 hg hbb
  go_enter Try.func90, Try.ntmps90
  go_wp2
  go_loopw [6] (fun i wr => ∃ s : Nat, s ≤ n ∧ i = .int .i64 s ∧ Hid (∀ j, j < s → (rcZs xss (j : Int)).length = n) ∧ Below (w.heap.size + 1) (w.alloc (.cells #[.int .i64 n, .slice ao m c] 28)) wr) (fun i _ => n - (intOf i).toNat)
  case atStart => exact ⟨0, Nat.zero_le _, rfl, fun j hj => absurd hj (Nat.not_lt_zero _), Below.refl _ _⟩
  case round =>
    obtain ⟨s, hs, rfl, HN, hb⟩ := hrel
    have q0 := Below.cellOf hb p0 (by omega)
    have q1 := Below.cellOf hb p1 (by omega)
    have lq := block_lt_of_cell q0
    have hbw : Below w.heap.size w wr := bx.trans (hb.mono (by omega))
    by_cases hlt : s < n
    · have hle := HLE.out s hlt
      have HR := Lib.hid (fun W (hW : Below wr.heap.size wr W) => HRE.out s hlt W (below_trans hbw hW))
      have HNX : Hid ((rcZs xss (s : Int)).length = n → ∀ j, j < s + 1 → (rcZs xss (j : Int)).length = n) := fun hq j hj => by
        rcases Nat.lt_or_ge j s with h | h
        · exact HN.out j h
        · obtain rfl : j = s := by omega
          exact hq
      have HNO2 := Lib.hid (HNO.out s hlt)
      generalize rcZs xss (s : Int) = R at HR HNX HNO2 hle
      obtain ⟨w0, rfl⟩ : ∃ w0 : World, w0 = wr := ⟨_, rfl⟩
      have HB0 := Lib.hid hb
      have hlw : w.heap.size + 1 ≤ w0.heap.size := by have := hb.size; simp at this; omega
      have hR9 : R.length ≤ 10 := by omega
      by_cases hRn : R.length = n
      · have HN2 := Lib.hid (HNX.out hRn)
        have hd : decide ((R.length : Int) < (n : Int)) = false := decide_eq_false (by omega)
        have hnl : ¬ R.length < n := by omega
        clear hle hRn HNX HNO2
        go_wp2
        go_region_held3 (fun w' => Below w0.heap.size w0 w' ∧ ∀ b o, b < w0.heap.size → w'.cell? ⟨b, o, none⟩ = w0.cell? ⟨b, o, none⟩) (first | exact held_start | assumption | exact held_nx (by assumption) (by assumption))
          (first
            | (go_simp; go_at_call 126; refine (HR.out _ (And.left (by assumption))).mono ?_; rintro e w5 ⟨v5, rfl, ho5, hb5⟩; obtain ⟨a5, m5, c5, rfl, HM5⟩ := own_shape ho5; (have HM6 : m5 = R.length := HM5.out); subst HM6)
            | (go_simp; go_at_call 110; refine (sizeInts_any _ _ _ _ (by omega)).mono ?_; rintro e w6 ⟨rfl, rfl⟩))
        all_goals
          rename Below w0.heap.size w0 _ ∧ _ => hS
          have hb9 := hb.trans (hS.1.mono hlw)
          clear hS
          go_wp2
          go_roundw
          case rel => exact ⟨s + 1, by omega, by go_num, HN2.out, hb9⟩
          case measure => simp [intOf]; omega
      · have hBB := HNO2.out hRn
        subst hBB
        have hd : decide ((R.length : Int) < (n : Int)) = true := decide_eq_true (by omega)
        have hnl : R.length < n := by omega
        clear hle hRn HNX HNO2
        go_wp2
        go_region_held3 (fun w' => Below w0.heap.size w0 w' ∧ ∀ b o, b < w0.heap.size → w'.cell? ⟨b, o, none⟩ = w0.cell? ⟨b, o, none⟩) (first | exact held_start | assumption | exact held_nx (by assumption) (by assumption))
          (first
            | (go_simp; go_at_call 126; refine (HR.out _ (And.left (by assumption))).mono ?_; rintro e w5 ⟨v5, rfl, ho5, hb5⟩; obtain ⟨a5, m5, c5, rfl, HM5⟩ := own_shape ho5; (have HM6 : m5 = R.length := HM5.out); subst HM6)
            | (go_simp; go_at_call 110; refine (sizeInts_any _ _ _ _ (by omega)).mono ?_; rintro e w6 ⟨rfl, rfl⟩))
        all_goals
          rename Below w0.heap.size w0 _ ∧ _ => hS
          have hb9 := below_trans hbw hS.1
          clear hS
          go_wp2
          go_ret
          exact ⟨rfl, hb9⟩
    · have HBB : Hid (bb = true) := HYE.out fun j hj => HN.out j (by omega)
      have hq := HBB.out
      subst hq
      go_wp2
      go_ret
      exact ⟨rfl, hbw⟩

set_option maxRecDepth 100000 in
set_option maxHeartbeats 4000000 in
theorem implIsConn_any (st : Int) (v : Value) (xss : List (List Int)) (w : World) (h1 : Rows2 w v xss) :
    Calls Try.prog 44 #[.agg #[.int .i64 st, v]] w (RetB (.tuple #[.bool (icOk st xss), .int .i64 (rkCd st xss)]) w) := by
  obtain ⟨ao, m, c, rfl, HM⟩ := h1.shape
  obtain ⟨W1, hW1⟩ : ∃ W1, W1 = w.alloc (.cells #[.int .i64 st, .slice ao m c] 28) := ⟨_, rfl⟩
  have bx : Below w.heap.size w W1 := by rw [hW1]; exact below_alloc (Below.refl _ _) _
  have p0 : W1.cell? ⟨w.heap.size, 0, none⟩ = some (.int .i64 st) := by rw [hW1]; go_simp
  have p1 : W1.cell? ⟨w.heap.size, 1, none⟩ = some (.slice ao m c) := by rw [hW1]; go_simp
  have HV := Lib.hid (validAuto_any st _ xss W1 (h1.kept bx))
  cases hv : validB st xss
  · rw [show icOk st xss = false by simp [icOk, hv], show rkCd st xss = 1 by simp [rkCd, hv]]
    rw [hv] at HV
    subst hW1
    clear hv h1
    go_enter Try.func44, Try.ntmps44
    go_wp2_with fail
    refine HV.out.mono ?_
    rintro e w2 ⟨rfl, hb⟩
    have hbb := below_trans bx hb
    go_wp2
    go_ret2
    exact ⟨rfl, hbb⟩
  · obtain ⟨n, hg⟩ := good_of hv
    obtain rfl := hg.st
    rw [show icOk n xss = joinedB xss n by simp [icOk, hv], show rkCd n xss = 0 by simp [rkCd, hv]]
    rw [hv] at HV
    have HC := Lib.hid (fun W (hW : Below W1.heap.size W1 W) => isConn_any _ xss n W ((h1.kept bx).kept hW) hg)
    generalize joinedB xss n = bb at HC ⊢
    subst hW1
    clear hv h1 hg
    go_enter Try.func44, Try.ntmps44
    go_wp2_with fail
    refine HV.out.mono ?_
    rintro e w2 ⟨rfl, hb⟩
    have q0 := below_cell hb p0
    have q1 := below_cell hb p1
    have lq := block_lt_of_cell q0
    go_wp2_with fail
    refine (HC.out _ hb).mono ?_
    rintro e w3 ⟨rfl, hb3⟩
    have hbb := below_trans bx (below_trans hb hb3)
    go_wp2
    go_ret2
    exact ⟨rfl, hbb⟩

set_option maxRecDepth 100000 in
set_option maxHeartbeats 4000000 in
theorem l01Joined_any (b : Nat) (v : Value) (xss : List (List Int)) (n : Nat) (w : World) (d0 : w.cell? ⟨b, 0, none⟩ = some (.int .i64 n)) (d1 : w.cell? ⟨b, 1, none⟩ = some v) (h1 : Rows2 w v xss) (hg : Good n n xss) :
    Calls Try.prog 89 #[.pointer (some ⟨b, 0, none⟩)] w (RetB (.bool (joinedB xss n)) w) := by
  have hn10 := hg.hi
  obtain ⟨ao, m, c, rfl, HM⟩ := h1.shape
  have HRE := Lib.hid (fun (s : Nat) (hs : s < n) W (hW : Below w.heap.size w W) => l01Reached_any b _ xss n s W (below_cell hW d0) (below_cell hW d1) (h1.kept hW) hg ⟨by omega, by omega⟩)
  have HLE := Lib.hid (fun (s : Nat) (hs : s < n) => rcZs_len hg (s := (s : Int)) ⟨by omega, by omega⟩)
  have HNO := Lib.hid (fun (s : Nat) (hs : s < n) h => joined_no (xss := xss) hs h)
  have HYE := Lib.hid (fun h => joined_yes (xss := xss) (n := n) h)
  obtain ⟨bb, hbb⟩ : ∃ bb, bb = joinedB xss n := ⟨_, rfl⟩
  rw [← hbb]
  rw [← hbb] at HNO HYE
  clear h1 hg hbb
  go_enter Try.func89, Try.ntmps89
  go_wp2
  go_loopw [3] (fun i wr => ∃ s : Nat, s ≤ n ∧ i = .int .i64 s ∧ Hid (∀ j, j < s → (rcZs xss (j : Int)).length = n) ∧ Below w.heap.size w wr) (fun i _ => n - (intOf i).toNat)
  case atStart => exact ⟨0, Nat.zero_le _, rfl, fun j hj => absurd hj (Nat.not_lt_zero _), Below.refl _ _⟩
  case round =>
    obtain ⟨s, hs, rfl, HN, hb⟩ := hrel
    have q0 := below_cell hb d0
    have q1 := below_cell hb d1
    have lq := block_lt_of_cell q0
    by_cases hlt : s < n
    · have hle := HLE.out s hlt
      have HR := Lib.hid (fun W (hW : Below wr.heap.size wr W) => HRE.out s hlt W (below_trans hb hW))
      have HNX : Hid ((rcZs xss (s : Int)).length = n → ∀ j, j < s + 1 → (rcZs xss (j : Int)).length = n) := fun hq j hj => by
        rcases Nat.lt_or_ge j s with h | h
        · exact HN.out j h
        · obtain rfl : j = s := by omega
          exact hq
      have HNO2 := Lib.hid (HNO.out s hlt)
      generalize rcZs xss (s : Int) = R at HR HNX HNO2 hle
      obtain ⟨w0, rfl⟩ : ∃ w0 : World, w0 = wr := ⟨_, rfl⟩
      have HB0 := Lib.hid hb
      by_cases hRn : R.length = n
      · have HN2 := Lib.hid (HNX.out hRn)
        have hd : ((R.length : Int) != (n : Int)) = false := by simp; omega
        clear hle hRn HNX HNO2
        go_wp2
        go_region_held3 (fun w' => Below w0.heap.size w0 w' ∧ ∀ b o, b < w0.heap.size → w'.cell? ⟨b, o, none⟩ = w0.cell? ⟨b, o, none⟩) (first | exact held_start | assumption | exact held_nx (by assumption) (by assumption))
          (first | (go_simp; go_at_call 125; refine (HR.out _ (And.left (by assumption))).mono ?_; rintro e w5 ⟨v5, rfl, ho5, hb5⟩; obtain ⟨a5, m5, c5, rfl, HM5⟩ := own_shape ho5; (have HM6 : m5 = R.length := HM5.out); subst HM6))
        all_goals
          rename Below w0.heap.size w0 _ ∧ _ => hS
          have hb9 := below_trans hb hS.1
          clear hS
          go_wp2
          go_roundw
          case rel => exact ⟨s + 1, by omega, by go_num, HN2.out, hb9⟩
          case measure => simp [intOf]; omega
      · have hBB := HNO2.out hRn
        subst hBB
        have hd : ((R.length : Int) != (n : Int)) = true := by simp; omega
        clear hle hRn HNX HNO2
        go_wp2
        go_region_held3 (fun w' => Below w0.heap.size w0 w' ∧ ∀ b o, b < w0.heap.size → w'.cell? ⟨b, o, none⟩ = w0.cell? ⟨b, o, none⟩) (first | exact held_start | assumption | exact held_nx (by assumption) (by assumption))
          (first | (go_simp; go_at_call 125; refine (HR.out _ (And.left (by assumption))).mono ?_; rintro e w5 ⟨v5, rfl, ho5, hb5⟩; obtain ⟨a5, m5, c5, rfl, HM5⟩ := own_shape ho5; (have HM6 : m5 = R.length := HM5.out); subst HM6))
        all_goals
          rename Below w0.heap.size w0 _ ∧ _ => hS
          have hb9 := below_trans hb hS.1
          clear hS
          go_wp2
          go_ret
          exact ⟨rfl, hb9⟩
    · have HBB : Hid (bb = true) := HYE.out fun j hj => HN.out j (by omega)
      have hq := HBB.out
      subst hq
      go_wp2
      go_ret
      exact ⟨rfl, hb⟩

set_option maxRecDepth 100000 in
set_option maxHeartbeats 4000000 in
theorem specIsConn_any (st : Int) (v : Value) (xss : List (List Int)) (w : World) (h1 : Rows2 w v xss) :
    Calls Try.prog 43 #[.agg #[.int .i64 st, v]] w (RetB (.tuple #[.bool (icOk st xss), .int .i64 (rkCd st xss)]) w) := by
  obtain ⟨ao, m, c, rfl, HM⟩ := h1.shape
  obtain ⟨W1, hW1⟩ : ∃ W1, W1 = w.alloc (.cells #[.int .i64 st, .slice ao m c] 28) := ⟨_, rfl⟩
  have bx : Below w.heap.size w W1 := by rw [hW1]; exact below_alloc (Below.refl _ _) _
  have p0 : W1.cell? ⟨w.heap.size, 0, none⟩ = some (.int .i64 st) := by rw [hW1]; go_simp
  have p1 : W1.cell? ⟨w.heap.size, 1, none⟩ = some (.slice ao m c) := by rw [hW1]; go_simp
  have HOK := Lib.hid (l01Ok_any w.heap.size 0 st _ xss W1 p0 p1 (h1.kept bx))
  cases hv : validB st xss
  · rw [show icOk st xss = false by simp [icOk, hv], show rkCd st xss = 1 by simp [rkCd, hv]]
    rw [hv] at HOK
    subst hW1
    clear hv h1
    go_enter Try.func43, Try.ntmps43
    go_wp2_with fail
    refine HOK.out.mono ?_
    rintro e w2 ⟨rfl, hq⟩
    have hbb := below_trans bx (hq.below (w.alloc (.cells #[.int .i64 st, .slice ao m c] 28)).heap.size)
    go_wp2
    go_ret2
    exact ⟨rfl, hbb⟩
  · obtain ⟨n, hg⟩ := good_of hv
    obtain rfl := hg.st
    rw [show icOk n xss = joinedB xss n by simp [icOk, hv], show rkCd n xss = 0 by simp [rkCd, hv]]
    rw [hv] at HOK
    have HC := Lib.hid (fun W (hW : Below W1.heap.size W1 W) => l01Joined_any w.heap.size _ xss n W (below_cell hW p0) (below_cell hW p1) ((h1.kept bx).kept hW) hg)
    generalize joinedB xss n = bb at HC ⊢
    subst hW1
    clear hv h1 hg
    go_enter Try.func43, Try.ntmps43
    go_wp2_with fail
    refine HOK.out.mono ?_
    rintro e w2 ⟨rfl, hq⟩
    have hb := hq.below (w.alloc (.cells #[.int .i64 n, .slice ao m c] 28)).heap.size
    go_wp2_with fail
    refine (HC.out _ hb).mono ?_
    rintro e w3 ⟨rfl, hb3⟩
    have hbb := below_trans bx (below_trans hb hb3)
    go_wp2
    go_ret2
    exact ⟨rfl, hbb⟩

end Go.Proofs.Ytlgnbbfhejjodaa
