/- What the reference tells of all colourings: the first that can be reset, how many, the least rank. Written by gen_colspec.py. -/
import Derived.Test.YtlgnbbfhejjodaaColLaw
import Derived.Test.YtlgnbbfhejjodaaColSpec
namespace Go.Proofs.Ytlgnbbfhejjodaa
set_option linter.unusedVariables false
set_option linter.unusedSimpArgs false
open Go.ChangeShapes Go.WideShapes Go.ChangeAt Go.RowKit

/-- the arrangements with a code -/
def ManyPost (ls : List (List (List Int))) (cd : Int) (w : World) (e : Ending) (w' : World) : Prop :=
  ∃ ao m c, e = .returned (.tuple #[.slice ao m c, .int .i64 cd]) ∧ (cd = 0 → Rows3 w' (.slice ao m c) ls) ∧ Below w.heap.size w w'

set_option maxHeartbeats 4000000 in
theorem l05Many_any (b : Nat) (st : Int) (v : Value) (xss : List (List Int)) (w : World) (d0 : w.cell? ⟨b, 0, none⟩ = some (.int .i64 st)) (d1 : w.cell? ⟨b, 1, none⟩ = some v) (h1 : RowsC w v xss) :
    Calls Try.prog 83 #[.pointer (some ⟨b, 0, none⟩)] w (ManyPost (choices xss) (colCd st xss) w) := by
  have HOK := Lib.hid (l05Ok_any b 0 st _ xss w d0 d1 h1.rows)
  cases hv : validR st xss
  · rw [show colCd st xss = 1 by simp [colCd, hv]]
    rw [hv] at HOK
    clear hv h1
    go_enter Try.func83, Try.ntmps83
    go_wp2_with fail
    refine HOK.out.mono ?_
    rintro e w2 ⟨rfl, hqq⟩
    have hb := hqq.below w.heap.size
    go_wp2
    go_ret2
    exact ⟨_, _, _, rfl, fun h => absurd h (by decide), below_trans hb (below_alloc (Below.refl _ _) _)⟩
  · obtain ⟨n, d, hg⟩ := goodR_of hv
    rw [hv] at HOK
    have HNP := Lib.hid (fun W (hW : Below w.heap.size w W) => l05Choices_any b _ xss W (below_cell hW d1) (h1.kept hW) (by rw [hg.len]; exact hg.hi) (fun s hs => by rw [hg.row s (by rw [← hg.len]; exact hs)]; exact hg.d3))
    have HCN := Lib.hid (fun (u : Value) W (h : Rows3 W u (choices xss)) => l05Count_any u (choices xss) n d W h hg.choices hg.hi)
    have HCD : Hid (colCd st xss = if 50000 < cntOf (choices xss) then 3 else 0) := by simp [Hid, colCd, hv]
    generalize colCd st xss = cd at HCD ⊢
    generalize cntOf (choices xss) = cn at HCN HCD
    generalize choices xss = ls at HCN HNP ⊢
    clear hv h1 hg
    go_enter Try.func83, Try.ntmps83
    go_wp2_with fail
    refine HOK.out.mono ?_
    rintro e w2 ⟨rfl, hqq⟩
    have hb := hqq.below w.heap.size
    go_wp2_with fail
    refine (HNP.out _ hb).mono ?_
    rintro e w3 ⟨v3, rs3, rfl, ho3, hb3⟩
    have hr3 := ho3.reads
    obtain ⟨a3, m3, c3, rfl, HM3⟩ := own_shape ho3.outer
    clear ho3
    go_wp2_with fail
    refine (HCN.out _ _ hr3).mono ?_
    rintro e w4 ⟨rfl, hb4⟩
    have bw4 := below_trans hb (below_trans hb3 hb4)
    have HR4 := Lib.hid (hr3.kept hb4)
    clear hr3
    by_cases hc : 50000 < cn
    · have hc3 : cd = 3 := by rw [HCD.out, if_pos hc]
      subst hc3
      go_wp2
      go_ret2
      exact ⟨_, _, _, rfl, fun h => absurd h (by decide), below_trans bw4 (below_alloc (Below.refl _ _) _)⟩
    · have hc3 : cd = 0 := by rw [HCD.out, if_neg hc]
      subst hc3
      go_wp2
      go_ret2
      exact ⟨_, _, _, rfl, fun _ => HR4.out, bw4⟩

set_option maxRecDepth 100000 in
set_option maxHeartbeats 4000000 in
theorem l05First_any (v : Value) (ls : List (List (List Int))) (n d : Nat) (w : World) (h1 : Rows3 w v ls) (hg : GoodL n d ls) (hn1 : 1 ≤ n) (hn : n ≤ 7) (hd : 1 ≤ d) (hd3 : d ≤ 3) :
    Calls Try.prog 87 #[v] w (RetB (.int .i64 (firstAt (oneR (rkC n d ls)) (cntOf ls))) w) := by
  obtain ⟨ao, m, c, rfl, HM⟩ := h1.shape
  have h3 := h1
  have HCN := Lib.hid (fun W (hW : Below w.heap.size w W) => l05Count_any _ ls n d W (h3.kept hW) hg hn)
  have HAT := Lib.hid (fun k (hk : k ≤ 279936) W (hW : Below w.heap.size w W) => l05At_any _ ls n d k W (h3.kept hW) hg hn1 hn hd hd3 hk)
  have HFU := Lib.hid (fun b W (d0 : W.cell? ⟨b, 0, none⟩ = some (.int .i64 n)) => l02Full_any b n W d0 (by omega))
  have HSH := Lib.hid (fun k b (v3 : Value) W (d0 : W.cell? ⟨b, 0, none⟩ = some (.int .i64 n)) (d1 : W.cell? ⟨b, 1, none⟩ = some v3) (hr : Rows2 W v3 (colRows ls d k)) => l02Shrink_any b n v3 (colRows ls d k) n (2 ^ n - 1) W d0 d1 hr (hg.good hn1 hn hd hd3 k) (full_lt n))
  have HSM := Lib.hid (fun k => rkC_small hg hn1 hn hd hd3 k)
  have hcn : cntOf ls ≤ 279936 := by unfold cntOf; rw [hg.len]; exact hg.cnt7 hn (Nat.le_refl _)
  have HOR : Hid (∀ k, oneR (rkC n d ls) k = decide (rkC n d ls k = 1)) := fun _ => rfl
  clear h1 h3 hg
  generalize rkC n d ls = rk at HSM HOR ⊢
  generalize cntOf ls = cn at HCN hcn ⊢
  go_enter Try.func87, Try.ntmps87
  go_wp2
  go_loopw [3] (fun i wr => ∃ k : Nat, k ≤ cn ∧ i = .int .i64 k ∧ Hid (∀ j, j < k → oneR rk j = false) ∧ Below w.heap.size w wr) (fun i _ => cn - (intOf i).toNat)
  case atStart => exact ⟨0, Nat.zero_le _, rfl, fun j hj => absurd hj (by omega), Below.refl _ _⟩
  case round =>
    obtain ⟨k, hk, rfl, hno, hb⟩ := hrel
    go_wp2_with fail
    refine (HCN.out _ hb).mono ?_
    rintro e w2 ⟨rfl, hb1⟩
    have hb2 := below_trans hb hb1
    by_cases hlt : k < cn
    · go_wp2_with fail
      refine (HAT.out k (by omega) _ hb2).mono ?_
      rintro e w3 ⟨v3, rs3, rfl, ho3, hb3⟩
      obtain ⟨a3, m3, c3, rfl, HM3⟩ := own_shape ho3.outer
      have hal : Below w3.heap.size w3 (w3.alloc (.cells #[.int .i64 (n : Int), .slice a3 m3 c3] 28)) := below_alloc (Below.refl _ _) _
      have t0 : (w3.alloc (.cells #[.int .i64 (n : Int), .slice a3 m3 c3] 28)).cell? ⟨w3.heap.size, 0, none⟩ = some (.int .i64 n) := by go_simp
      have t1 : (w3.alloc (.cells #[.int .i64 (n : Int), .slice a3 m3 c3] 28)).cell? ⟨w3.heap.size, 1, none⟩ = some (.slice a3 m3 c3) := by go_simp
      have hr4 := ho3.reads.kept hal
      have hb4 := below_trans hb2 (below_trans hb3 hal)
      clear ho3
      go_wp2_with fail
      refine (HFU.out _ _ t0).mono ?_
      rintro e w4 ⟨rfl, rfl⟩
      go_wp2_with fail
      refine (HSH.out k _ _ _ t0 t1 hr4).mono ?_
      rintro e w5 ⟨vz, rfl, hoz, hb5⟩
      have hb6 := below_trans hb4 hb5
      rw [HSM.out k]
      clear hoz t0 t1 hr4
      by_cases hr : rk k = 1
      · have hd1 : decide (rk k = 1) = true := decide_eq_true hr
        have HF : Hid (firstAt (oneR rk) cn = (k : Int)) := firstAt_yes hlt (by rw [HOR.out]; exact hd1) hno.out
        clear hr
        go_wp2
        go_ret
        exact ⟨by rw [HF.out]; rfl, hb6⟩
      · have hd1 : decide (rk k = 1) = false := decide_eq_false hr
        have HN2 : Hid (oneR rk k = false) := by unfold Hid; rw [HOR.out]; exact hd1
        clear hr
        go_wp2
        go_roundw
        case rel => exact ⟨k + 1, by omega, by go_num, fun j hj => by
          rcases Nat.lt_or_ge j k with h | h
          · exact hno.out j h
          · obtain rfl : j = k := by omega
            exact HN2.out, hb6⟩
        case measure => simp [intOf]; omega
    · have HF : Hid (firstAt (oneR rk) cn = -1) := firstAt_no fun j hj => hno.out j (by omega)
      go_wp2
      go_ret
      exact ⟨by rw [HF.out]; rfl, hb2⟩

set_option maxRecDepth 100000 in
set_option maxHeartbeats 4000000 in
theorem specFirstCol_any (st : Int) (v : Value) (xss : List (List Int)) (w : World) (h1 : RowsC w v xss) :
    Calls Try.prog 39 #[.agg #[.int .i64 st, v]] w (RetB (.tuple #[.int .i64 (frOf st xss), .int .i64 (frCd st xss)]) w) := by
  obtain ⟨ao, m, c, rfl, HM⟩ := h1.rows.shape
  obtain ⟨W1, hW1⟩ : ∃ W1, W1 = w.alloc (.cells #[.int .i64 st, .slice ao m c] 42) := ⟨_, rfl⟩
  have bx : Below w.heap.size w W1 := by rw [hW1]; exact below_alloc (Below.refl _ _) _
  have p0 : W1.cell? ⟨w.heap.size, 0, none⟩ = some (.int .i64 st) := by rw [hW1]; go_simp
  have p1 : W1.cell? ⟨w.heap.size, 1, none⟩ = some (.slice ao m c) := by rw [hW1]; go_simp
  have HMN := Lib.hid (l05Many_any w.heap.size st _ xss W1 p0 p1 (h1.kept bx))
  by_cases hc : colCd st xss = 0
  · have hv : validR st xss = true := by
      cases hv : validR st xss
      · simp [colCd, hv] at hc
      · rfl
    obtain ⟨n, d, hg⟩ := goodR_of hv
    rw [show frOf st xss = if frX xss < 0 then 0 else frX xss by unfold frOf; rw [if_pos hc], show frCd st xss = if frX xss < 0 then 6 else 0 by unfold frCd; rw [if_pos hc]]
    have HFI := Lib.hid (fun (u : Value) W (h : Rows3 W u (choices xss)) => l05First_any u (choices xss) n d W h hg.choices hg.lo hg.hi hg.d1 hg.d3)
    rw [← rkX_good hg] at HFI
    change Hid (∀ (u : Value) W, Rows3 W u (choices xss) → Calls Try.prog 87 #[u] W (RetB (.int .i64 (frX xss)) W)) at HFI
    rw [hc] at HMN
    generalize frX xss = fx at HFI ⊢
    generalize choices xss = ls at HFI HMN
    subst hW1
    clear hc hv hg h1
    by_cases hf : fx < 0
    · rw [if_pos hf, if_pos hf]
      go_enter Try.func39, Try.ntmps39
      go_wp2_with fail
      refine HMN.out.mono ?_
      rintro e w2 ⟨a2, m2, c2, rfl, h2, hb⟩
      have bw2 := below_trans bx hb
      have hr2 := h2 rfl
      clear h2
      go_wp2_with fail
      refine (HFI.out _ _ hr2).mono ?_
      rintro e w3 ⟨rfl, hb3⟩
      have bw3 := below_trans bw2 hb3
      clear hr2
      go_wp2
      go_ret2
      exact ⟨rfl, bw3⟩
    · rw [if_neg hf, if_neg hf]
      go_enter Try.func39, Try.ntmps39
      go_wp2_with fail
      refine HMN.out.mono ?_
      rintro e w2 ⟨a2, m2, c2, rfl, h2, hb⟩
      have bw2 := below_trans bx hb
      have hr2 := h2 rfl
      clear h2
      go_wp2_with fail
      refine (HFI.out _ _ hr2).mono ?_
      rintro e w3 ⟨rfl, hb3⟩
      have bw3 := below_trans bw2 hb3
      clear hr2
      go_wp2
      go_ret2
      exact ⟨rfl, bw3⟩
  · rw [show frOf st xss = 0 by unfold frOf; rw [if_neg hc], show frCd st xss = colCd st xss by unfold frCd; rw [if_neg hc]]
    generalize colCd st xss = cd at HMN hc ⊢
    subst hW1
    clear h1
    have hcb : (cd != 0) = true := by simp; exact hc
    have HC := Lib.hid hc
    clear hc
    go_enter Try.func39, Try.ntmps39
    go_wp2_with fail
    refine HMN.out.mono ?_
    rintro e w2 ⟨a2, m2, c2, rfl, h2, hb⟩
    have bw2 := below_trans bx hb
    clear h2
    go_wp2
    go_ret2
    exact ⟨rfl, bw2⟩

set_option maxRecDepth 100000 in
set_option maxHeartbeats 4000000 in
theorem specHasCol_any (st : Int) (v : Value) (xss : List (List Int)) (w : World) (h1 : RowsC w v xss) :
    Calls Try.prog 41 #[.agg #[.int .i64 st, v]] w (RetB (.tuple #[.bool (hrOk st xss), .int .i64 (colCd st xss)]) w) := by
  obtain ⟨ao, m, c, rfl, HM⟩ := h1.rows.shape
  obtain ⟨W1, hW1⟩ : ∃ W1, W1 = w.alloc (.cells #[.int .i64 st, .slice ao m c] 42) := ⟨_, rfl⟩
  have bx : Below w.heap.size w W1 := by rw [hW1]; exact below_alloc (Below.refl _ _) _
  have p0 : W1.cell? ⟨w.heap.size, 0, none⟩ = some (.int .i64 st) := by rw [hW1]; go_simp
  have p1 : W1.cell? ⟨w.heap.size, 1, none⟩ = some (.slice ao m c) := by rw [hW1]; go_simp
  have HMN := Lib.hid (l05Many_any w.heap.size st _ xss W1 p0 p1 (h1.kept bx))
  by_cases hc : colCd st xss = 0
  · have hv : validR st xss = true := by
      cases hv : validR st xss
      · simp [colCd, hv] at hc
      · rfl
    obtain ⟨n, d, hg⟩ := goodR_of hv
    rw [show hrOk st xss = decide (0 ≤ frX xss) by simp [hrOk, hc]]
    have HFI := Lib.hid (fun (u : Value) W (h : Rows3 W u (choices xss)) => l05First_any u (choices xss) n d W h hg.choices hg.lo hg.hi hg.d1 hg.d3)
    rw [← rkX_good hg] at HFI
    change Hid (∀ (u : Value) W, Rows3 W u (choices xss) → Calls Try.prog 87 #[u] W (RetB (.int .i64 (frX xss)) W)) at HFI
    rw [hc] at HMN ⊢
    generalize frX xss = fx at HFI ⊢
    generalize choices xss = ls at HFI HMN
    subst hW1
    clear hc hv hg h1
    go_enter Try.func41, Try.ntmps41
    go_wp2_with fail
    refine HMN.out.mono ?_
    rintro e w2 ⟨a2, m2, c2, rfl, h2, hb⟩
    have bw2 := below_trans bx hb
    have hr2 := h2 rfl
    clear h2
    go_wp2_with fail
    refine (HFI.out _ _ hr2).mono ?_
    rintro e w3 ⟨rfl, hb3⟩
    have bw3 := below_trans bw2 hb3
    clear hr2
    go_wp2
    go_ret2
    exact ⟨rfl, bw3⟩
  · rw [show hrOk st xss = false by simp [hrOk, hc]]
    generalize colCd st xss = cd at HMN hc ⊢
    subst hW1
    clear h1
    have hcb : (cd != 0) = true := by simp; exact hc
    have HC := Lib.hid hc
    clear hc
    go_enter Try.func41, Try.ntmps41
    go_wp2_with fail
    refine HMN.out.mono ?_
    rintro e w2 ⟨a2, m2, c2, rfl, h2, hb⟩
    have bw2 := below_trans bx hb
    clear h2
    go_wp2
    go_ret2
    exact ⟨rfl, bw2⟩

set_option maxRecDepth 100000 in
set_option maxHeartbeats 4000000 in
theorem specCntReset_any (st : Int) (v : Value) (xss : List (List Int)) (w : World) (h1 : RowsC w v xss) :
    Calls Try.prog 37 #[.agg #[.int .i64 st, v]] w (RetB (.tuple #[.int .i64 (crOf st xss), .int .i64 (colCd st xss)]) w) := by
  obtain ⟨ao, m, c, rfl, HM⟩ := h1.rows.shape
  obtain ⟨W1, hW1⟩ : ∃ W1, W1 = w.alloc (.cells #[.int .i64 st, .slice ao m c] 42) := ⟨_, rfl⟩
  have bx : Below w.heap.size w W1 := by rw [hW1]; exact below_alloc (Below.refl _ _) _
  have p0 : W1.cell? ⟨w.heap.size, 0, none⟩ = some (.int .i64 st) := by rw [hW1]; go_simp
  have p1 : W1.cell? ⟨w.heap.size, 1, none⟩ = some (.slice ao m c) := by rw [hW1]; go_simp
  have HMN := Lib.hid (l05Many_any w.heap.size st _ xss W1 p0 p1 (h1.kept bx))
  by_cases hc : colCd st xss = 0
  · have hv : validR st xss = true := by
      cases hv : validR st xss
      · simp [colCd, hv] at hc
      · rfl
    obtain ⟨n, d, hgr⟩ := goodR_of hv
    rw [show crOf st xss = (crTo (rkX xss) (cntOf (choices xss)) : Int) by unfold crOf; rw [if_pos hc], hc]
    rw [rkX_good hgr]
    have hg := hgr.choices
    have hn1 := hgr.lo
    have hn := hgr.hi
    have hd := hgr.d1
    have hd3 := hgr.d3
    have hxl := hgr.len
    have hst := hgr.st
    rw [hc] at HMN
    generalize choices xss = ls at hg HMN ⊢
    subst hW1
    clear hxl hst
    clear hc hv hgr h1
    have HCN := Lib.hid (fun (u : Value) W0 (h3 : Rows3 W0 u ls) W (hW : Below W0.heap.size W0 W) => l05Count_any u ls n d W (h3.kept hW) hg hn)
    have HAT := Lib.hid (fun (u : Value) W0 (h3 : Rows3 W0 u ls) k (hk : k ≤ 279936) W (hW : Below W0.heap.size W0 W) => l05At_any u ls n d k W (h3.kept hW) hg hn1 hn hd hd3 hk)
    have HFU := Lib.hid (fun b W (d0 : W.cell? ⟨b, 0, none⟩ = some (.int .i64 n)) => l02Full_any b n W d0 (by omega))
    have HSH := Lib.hid (fun k b (v3 : Value) W (d0 : W.cell? ⟨b, 0, none⟩ = some (.int .i64 n)) (d1 : W.cell? ⟨b, 1, none⟩ = some v3) (hr : Rows2 W v3 (colRows ls d k)) => l02Shrink_any b n v3 (colRows ls d k) n (2 ^ n - 1) W d0 d1 hr (hg.good hn1 hn hd hd3 k) (full_lt n))
    have HSM := Lib.hid (fun k => rkC_small hg hn1 hn hd hd3 k)
    have hcn : cntOf ls ≤ 279936 := by unfold cntOf; rw [hg.len]; exact hg.cnt7 hn (Nat.le_refl _)
    have HOR : Hid (∀ k, oneR (rkC n d ls) k = decide (rkC n d ls k = 1)) := fun _ => rfl
    clear hg
    generalize rkC n d ls = rk at HSM HOR ⊢
    generalize cntOf ls = cn at HCN hcn ⊢
    go_enter Try.func37, Try.ntmps37
    go_wp2_with fail
    refine HMN.out.mono ?_
    rintro e w2 ⟨a2, m2, c2, rfl, h2, hb⟩
    have bw2 := below_trans bx hb
    have h3 := h2 rfl
    have HCN := Lib.hid (HCN.out _ _ h3)
    have HAT := Lib.hid (HAT.out _ _ h3)
    clear h2 h3
    go_wp2
    go_loopw [6, 7] (fun s i wr => ∃ k : Nat, k ≤ cn ∧ i = .int .i64 k ∧ s = .int .i64 (crTo rk k) ∧ Below w2.heap.size w2 wr) (fun _ i _ => cn - (intOf i).toNat)
    case atStart => exact ⟨0, Nat.zero_le _, rfl, rfl, Below.refl _ _⟩
    case round =>
      obtain ⟨k, hk, rfl, rfl, hb0⟩ := hrel
      have hcl := crTo_le rk k
      go_wp2_with fail
      refine (HCN.out _ hb0).mono ?_
      rintro e w2 ⟨rfl, hb1⟩
      have hb2 := below_trans hb0 hb1
      by_cases hlt : k < cn
      · go_wp2_with fail
        refine (HAT.out k (by omega) _ hb2).mono ?_
        rintro e w3 ⟨v3, rs3, rfl, ho3, hb3⟩
        obtain ⟨a3, m3, c3, rfl, HM3⟩ := own_shape ho3.outer
        have hal : Below w3.heap.size w3 (w3.alloc (.cells #[.int .i64 (n : Int), .slice a3 m3 c3] 28)) := below_alloc (Below.refl _ _) _
        have t0 : (w3.alloc (.cells #[.int .i64 (n : Int), .slice a3 m3 c3] 28)).cell? ⟨w3.heap.size, 0, none⟩ = some (.int .i64 n) := by go_simp
        have t1 : (w3.alloc (.cells #[.int .i64 (n : Int), .slice a3 m3 c3] 28)).cell? ⟨w3.heap.size, 1, none⟩ = some (.slice a3 m3 c3) := by go_simp
        have hr4 := ho3.reads.kept hal
        have hb4 := below_trans hb2 (below_trans hb3 hal)
        clear ho3
        go_wp2_with fail
        refine (HFU.out _ _ t0).mono ?_
        rintro e w4 ⟨rfl, rfl⟩
        go_wp2_with fail
        refine (HSH.out k _ _ _ t0 t1 hr4).mono ?_
        rintro e w5 ⟨vz, rfl, hoz, hb5⟩
        have hb6 := below_trans hb4 hb5
        rw [HSM.out k]
        clear hoz t0 t1 hr4
        by_cases hr : rk k = 1
        · have hd1 : decide (rk k = 1) = true := decide_eq_true hr
          have HNX : Hid (crTo rk (k + 1) = crTo rk k + 1) := by unfold Hid; rw [crTo_succ, HOR.out, hd1]; rfl
          clear hr
          go_wp2
          go_roundw
          case rel => exact ⟨k + 1, by omega, by go_num, by rw [HNX.out]; go_num, hb6⟩
          case measure => simp [intOf]; omega
        · have hd1 : decide (rk k = 1) = false := decide_eq_false hr
          have HNX : Hid (crTo rk (k + 1) = crTo rk k) := by unfold Hid; rw [crTo_succ, HOR.out, hd1]; rfl
          clear hr
          go_wp2
          go_roundw
          case rel => exact ⟨k + 1, by omega, by go_num, by rw [HNX.out], hb6⟩
          case measure => simp [intOf]; omega
      · obtain rfl : k = cn := by omega
        go_wp2
        go_ret2
        exact ⟨rfl, below_trans bw2 hb2⟩
  · rw [show crOf st xss = 0 by unfold crOf; rw [if_neg hc]]
    generalize colCd st xss = cd at HMN hc ⊢
    subst hW1
    clear h1
    have hcb : (cd != 0) = true := by simp; exact hc
    have HC := Lib.hid hc
    clear hc
    go_enter Try.func37, Try.ntmps37
    go_wp2_with fail
    refine HMN.out.mono ?_
    rintro e w2 ⟨a2, m2, c2, rfl, h2, hb⟩
    have bw2 := below_trans bx hb
    clear h2
    go_wp2
    go_ret2
    exact ⟨rfl, bw2⟩

set_option maxRecDepth 100000 in
set_option maxHeartbeats 4000000 in
theorem specLeastCol_any (st : Int) (v : Value) (xss : List (List Int)) (w : World) (h1 : RowsC w v xss) :
    Calls Try.prog 35 #[.agg #[.int .i64 st, v]] w (RetB (.tuple #[.int .i64 (lrOf st xss), .int .i64 (lrAt st xss), .int .i64 (colCd st xss)]) w) := by
  obtain ⟨ao, m, c, rfl, HM⟩ := h1.rows.shape
  obtain ⟨W1, hW1⟩ : ∃ W1, W1 = w.alloc (.cells #[.int .i64 st, .slice ao m c] 42) := ⟨_, rfl⟩
  have bx : Below w.heap.size w W1 := by rw [hW1]; exact below_alloc (Below.refl _ _) _
  have p0 : W1.cell? ⟨w.heap.size, 0, none⟩ = some (.int .i64 st) := by rw [hW1]; go_simp
  have p1 : W1.cell? ⟨w.heap.size, 1, none⟩ = some (.slice ao m c) := by rw [hW1]; go_simp
  have HMN := Lib.hid (l05Many_any w.heap.size st _ xss W1 p0 p1 (h1.kept bx))
  by_cases hc : colCd st xss = 0
  · have hv : validR st xss = true := by
      cases hv : validR st xss
      · simp [colCd, hv] at hc
      · rfl
    obtain ⟨n, d, hgr⟩ := goodR_of hv
    rw [show lrOf st xss = ((lrTo (rkX xss) (xss.length + 1, 0) (cntOf (choices xss))).1 : Int) by unfold lrOf; rw [if_pos hc], show lrAt st xss = ((lrTo (rkX xss) (xss.length + 1, 0) (cntOf (choices xss))).2 : Int) by unfold lrAt; rw [if_pos hc], hc]
    rw [rkX_good hgr]
    have hg := hgr.choices
    have hn1 := hgr.lo
    have hn := hgr.hi
    have hd := hgr.d1
    have hd3 := hgr.d3
    have hxl := hgr.len
    have hst := hgr.st
    rw [hc] at HMN
    generalize choices xss = ls at hg HMN ⊢
    subst hW1
    rw [hxl]
    subst hst
    clear hc hv hgr h1
    have HCN := Lib.hid (fun (u : Value) W0 (h3 : Rows3 W0 u ls) W (hW : Below W0.heap.size W0 W) => l05Count_any u ls n d W (h3.kept hW) hg hn)
    have HAT := Lib.hid (fun (u : Value) W0 (h3 : Rows3 W0 u ls) k (hk : k ≤ 279936) W (hW : Below W0.heap.size W0 W) => l05At_any u ls n d k W (h3.kept hW) hg hn1 hn hd hd3 hk)
    have HFU := Lib.hid (fun b W (d0 : W.cell? ⟨b, 0, none⟩ = some (.int .i64 n)) => l02Full_any b n W d0 (by omega))
    have HFR := Lib.hid (fun k b (v3 : Value) W (d0 : W.cell? ⟨b, 0, none⟩ = some (.int .i64 n)) (d1 : W.cell? ⟨b, 1, none⟩ = some v3) (hr : Rows2 W v3 (colRows ls d k)) => l02From_any b n v3 (colRows ls d k) n (2 ^ n - 1) W d0 d1 hr (hg.good hn1 hn hd hd3 k) (full_lt n))
    have HLE := Lib.hid (fun k tb lo s b l bs lz W (hw : WalkAt W lo tb s b l (tourOf (colRows ls d k) (2 ^ n - 1)) bs lz) => l03Least_any tb lo n s b l _ bs lz W hw (GoodT.outer (hg.good hn1 hn hd hd3 k).rows (hg.good hn1 hn hd hd3 k).len3 (full_lt n) 1024) (by omega) (outerT_pos _ _ 1024))
    have HRC : Hid (∀ k, rankT (tourOf (colRows ls d k) (2 ^ n - 1)) = rkC n d ls k) := fun _ => rfl
    have hcn : cntOf ls ≤ 279936 := by unfold cntOf; rw [hg.len]; exact hg.cnt7 hn (Nat.le_refl _)
    have HLS : Hid (∀ k, lrTo (rkC n d ls) (n + 1, 0) (k + 1) = if rkC n d ls k < (lrTo (rkC n d ls) (n + 1, 0) k).1 then (rkC n d ls k, k) else lrTo (rkC n d ls) (n + 1, 0) k) := fun _ => rfl
    have HLB := Lib.hid (fun k => lrTo_le (rk := rkC n d ls) (s := (n + 1, 0)) (B := 8) ⟨by show n + 1 ≤ 8; omega, by show 0 ≤ 8; omega⟩ (fun k => by have := (rkC_in hg hn1 hn hd hd3 k).2; omega) k)
    have HRB := Lib.hid (fun k => (rkC_in hg hn1 hn hd hd3 k).2)
    clear hg
    generalize rkC n d ls = rk at HRC HLS HLB HRB ⊢
    generalize cntOf ls = cn at HCN hcn ⊢
    go_enter Try.func35, Try.ntmps35
    go_wp2_with fail
    refine HMN.out.mono ?_
    rintro e w2 ⟨a2, m2, c2, rfl, h2, hb⟩
    have bw2 := below_trans bx hb
    have h3 := h2 rfl
    have HCN := Lib.hid (HCN.out _ _ h3)
    have HAT := Lib.hid (HAT.out _ _ h3)
    clear h2 h3
    have q0 := below_cell hb p0
    have lq0 := block_lt_of_cell q0
    go_wp2
    go_loopw [7, 8, 9] (fun b f i wr => ∃ k : Nat, k ≤ cn ∧ i = .int .i64 k ∧ b = .int .i64 ((lrTo rk (n + 1, 0) k).1 : Nat) ∧ f = .int .i64 ((lrTo rk (n + 1, 0) k).2 : Nat) ∧ Below w2.heap.size w2 wr) (fun _ _ i _ => cn - (intOf i).toNat)
    case atStart => exact ⟨0, Nat.zero_le _, rfl, by go_num, rfl, Below.refl _ _⟩
    case round =>
      obtain ⟨k, hk, rfl, rfl, rfl, hb0⟩ := hrel
      have hlb := HLB.out k
      have hrb := HRB.out k
      have HLK := Lib.hid (HLS.out k)
      go_wp2_with fail
      refine (HCN.out _ hb0).mono ?_
      rintro e w2 ⟨rfl, hb1⟩
      have hb2 := below_trans hb0 hb1
      by_cases hlt : k < cn
      · go_wp2_with fail
        refine (HAT.out k (by omega) _ hb2).mono ?_
        rintro e w3 ⟨v3, rs3, rfl, ho3, hb3⟩
        obtain ⟨a3, m3, c3, rfl, HM3⟩ := own_shape ho3.outer
        have hal : Below w3.heap.size w3 (w3.alloc (.cells #[.int .i64 (n : Int), .slice a3 m3 c3] 28)) := below_alloc (Below.refl _ _) _
        have t0 : (w3.alloc (.cells #[.int .i64 (n : Int), .slice a3 m3 c3] 28)).cell? ⟨w3.heap.size, 0, none⟩ = some (.int .i64 n) := by go_simp
        have t1 : (w3.alloc (.cells #[.int .i64 (n : Int), .slice a3 m3 c3] 28)).cell? ⟨w3.heap.size, 1, none⟩ = some (.slice a3 m3 c3) := by go_simp
        have hr4 := ho3.reads.kept hal
        have hb4 := below_trans hb2 (below_trans hb3 hal)
        clear ho3
        go_wp2_with fail
        refine (HFU.out _ _ t0).mono ?_
        rintro e w4 ⟨rfl, rfl⟩
        go_wp2_with fail
        refine (HFR.out k _ _ _ t0 t1 hr4).mono ?_
        rintro e w5 ⟨tb, sv, bv, lv, bs, lz, rfl, hwk, hb5⟩
        have hb6 := below_trans hb4 hb5
        go_wp2_with fail
        refine (HLE.out k _ _ _ _ _ _ _ _ hwk).mono ?_
        rintro e w6 ⟨rfl, hb7⟩
        have hb8 := below_trans hb6 hb7
        rw [HRC.out k]
        clear hwk t0 t1 hr4
        by_cases hcmp : rk k < (lrTo rk (n + 1, 0) k).1
        · have HNX : Hid (lrTo rk (n + 1, 0) (k + 1) = (rk k, k)) := by unfold Hid; rw [HLK.out, if_pos hcmp]
          go_wp2
          go_roundw
          case rel => exact ⟨k + 1, by omega, by go_num, by rw [HNX.out], by rw [HNX.out], hb8⟩
          case measure => simp [intOf]; omega
        · have HNX : Hid (lrTo rk (n + 1, 0) (k + 1) = lrTo rk (n + 1, 0) k) := by unfold Hid; rw [HLK.out, if_neg hcmp]
          go_wp2
          go_roundw
          case rel => exact ⟨k + 1, by omega, by go_num, by rw [HNX.out], by rw [HNX.out], hb8⟩
          case measure => simp [intOf]; omega
      · obtain rfl : k = cn := by omega
        go_wp2
        ((try simp only [Exit.inBlock, Exit.then]); refine bodyPost_ret (results_tmp3 rfl _ _ _) rfl ?_)
        exact ⟨rfl, below_trans bw2 hb2⟩
  · rw [show lrOf st xss = 0 by unfold lrOf; rw [if_neg hc], show lrAt st xss = 0 by unfold lrAt; rw [if_neg hc]]
    generalize colCd st xss = cd at HMN hc ⊢
    subst hW1
    clear h1
    have hcb : (cd != 0) = true := by simp; exact hc
    have HC := Lib.hid hc
    clear hc
    go_enter Try.func35, Try.ntmps35
    go_wp2_with fail
    refine HMN.out.mono ?_
    rintro e w2 ⟨a2, m2, c2, rfl, h2, hb⟩
    have bw2 := below_trans bx hb
    clear h2
    go_wp2
    ((try simp only [Exit.inBlock, Exit.then]); refine bodyPost_ret (results_tmp3 rfl _ _ _) rfl ?_)
    exact ⟨rfl, bw2⟩

end Go.Proofs.Ytlgnbbfhejjodaa
