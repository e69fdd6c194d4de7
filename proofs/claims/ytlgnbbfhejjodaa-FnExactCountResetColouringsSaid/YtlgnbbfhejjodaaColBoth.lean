/- What the program tells of all colourings: the first that can be reset, how many, the least rank. -/
import Derived.Test.YtlgnbbfhejjodaaColImplR
import Derived.Test.YtlgnbbfhejjodaaColSpecR
import Derived.Laws.EntriesVeiled
namespace Go.Proofs.Ytlgnbbfhejjodaa
set_option linter.unusedVariables false
set_option linter.unusedSimpArgs false
open Go.ChangeShapes Go.WideShapes Go.ChangeAt Go.RowKit

/-- block b holds a number -/
def Num1 (b : Nat) (s : Int) (w : World) : Prop := w.cell? ⟨b, 0, none⟩ = some (.int .i64 s) ∧ w.frozen? ⟨b, 0, none⟩ = false
theorem Num1.below {b : Nat} {s : Int} {w w' : World} (h : Num1 b s w) (hb : Below w.heap.size w w') : Num1 b s w' :=
  ⟨below_cell hb h.1, (hb.frozen (p := ⟨b, 0, none⟩) (block_lt_of_cell h.1)).trans h.2⟩
theorem Num1.set {b : Nat} {s : Int} {w : World} (h : Num1 b s w) (t : Int) : Num1 b t (w.setCell ⟨b, 0, none⟩ (.int .i64 t)) := by
  have c := h.1
  have f := h.2
  have l := block_lt_of_cell c
  exact ⟨by go_simp, by go_simp⟩
theorem chg_set {b lo hi o : Nat} {w : World} {v : Value} (h1 : lo ≤ b) (h2 : b < hi) : Chg lo hi w (w.setCell ⟨b, o, none⟩ v) := Chg.of_grown grown_set fun g hg => by cases hg; exact ⟨h1, h2⟩

theorem frLit_any (b k r : Nat) (l s : Int) (W : World) (h : Num1 b s W) :
    Calls Try.prog 88 #[.int .i64 k, .int .i64 r, .int .i64 l, .pointer (some ⟨b, 0, none⟩)] W fun e w' => e = .returned (.bool (frGo s k r)) ∧ Num1 b (frStep s k r) w' ∧ Chg b (b + 1) W w' := by
  have c := h.1
  have f := h.2
  have lb := block_lt_of_cell c
  by_cases hr : r = 1
  · have e1 : frStep s k r = (k : Int) := by unfold frStep; rw [if_pos hr]
    have e2 : frGo s k r = false := by unfold frGo; rw [e1]; simp
    rw [e1, e2]
    subst hr
    have H1 := Lib.hid (h.set (k : Int))
    clear e1 e2 h
    go_enter Try.func88, Try.ntmps88
    go_wp2
    go_ret
    exact ⟨by first | rfl | simp, H1.out, chg_set (Nat.le_refl _) (Nat.lt_succ_self _)⟩
  · have e1 : frStep s k r = s := by unfold frStep; rw [if_neg hr]
    have e2 : frGo s k r = decide (s < 0) := by unfold frGo; rw [e1]
    rw [e1, e2]
    have hr2 : ((r : Int) == 1) = false := by simp; omega
    have H1 := Lib.hid h
    clear e1 e2 h hr
    go_enter Try.func88, Try.ntmps88
    go_wp2
    go_ret
    exact ⟨rfl, H1.out, Chg.refl _ _ _⟩

theorem crLit_any (b k r : Nat) (l s : Int) (W : World) (h : Num1 b s W) (hs : 0 ≤ s ∧ s ≤ 50000) :
    Calls Try.prog 86 #[.int .i64 k, .int .i64 r, .int .i64 l, .pointer (some ⟨b, 0, none⟩)] W fun e w' => e = .returned (.bool (crGo s k r)) ∧ Num1 b (crStep s k r) w' ∧ Chg b (b + 1) W w' := by
  have c := h.1
  have f := h.2
  have lb := block_lt_of_cell c
  have e2 : crGo s k r = true := rfl
  rw [e2]
  by_cases hr : r = 1
  · have e1 : crStep s k r = s + 1 := by unfold crStep; rw [if_pos hr]
    rw [e1]
    subst hr
    have H1 := Lib.hid (h.set (s + 1))
    clear e1 e2 h
    go_enter Try.func86, Try.ntmps86
    go_wp2
    go_ret
    exact ⟨rfl, H1.out, chg_set (Nat.le_refl _) (Nat.lt_succ_self _)⟩
  · have e1 : crStep s k r = s := by unfold crStep; rw [if_neg hr]
    rw [e1]
    have hr2 : ((r : Int) == 1) = false := by simp; omega
    have H1 := Lib.hid h
    clear e1 e2 h hr
    go_enter Try.func86, Try.ntmps86
    go_wp2
    go_ret
    exact ⟨rfl, H1.out, Chg.refl _ _ _⟩

/-- two blocks hold the least rank and the first with it -/
def Num2 (a b : Nat) (s : Nat × Nat) (w : World) : Prop := Num1 a s.1 w ∧ Num1 b s.2 w
theorem lrLit_any (a b k r : Nat) (l : Int) (s : Nat × Nat) (W : World) (h : Num2 a b s W) (hab : a + 1 = b) (hr7 : r ≤ 7) :
    Calls Try.prog 85 #[.int .i64 k, .int .i64 r, .int .i64 l, .pointer (some ⟨a, 0, none⟩), .pointer (some ⟨b, 0, none⟩)] W fun e w' => e = .returned (.bool (lrGo s k r)) ∧ Num2 a b (lrStep s k r) w' ∧ Chg a (b + 1) W w' := by
  obtain ⟨s1, s2⟩ := s
  have c := h.1.1
  have f := h.1.2
  have c2 := h.2.1
  have f2 := h.2.2
  have lb := block_lt_of_cell c
  have lb2 := block_lt_of_cell c2
  have hne : a ≠ b := by omega
  change W.cell? ⟨a, 0, none⟩ = some (.int .i64 (s1 : Nat)) at c
  change W.cell? ⟨b, 0, none⟩ = some (.int .i64 (s2 : Nat)) at c2
  by_cases hr : r < s1
  · have e1 : lrStep (s1, s2) k r = (r, k) := by unfold lrStep; rw [if_pos hr]
    have e2 : lrGo (s1, s2) k r = decide (1 < r) := by unfold lrGo; rw [e1]
    rw [e1, e2]
    have H1 : Hid (Num2 a b (r, k) ((W.setCell ⟨a, 0, none⟩ (.int .i64 r)).setCell ⟨b, 0, none⟩ (.int .i64 k))) := by
      refine ⟨⟨?_, ?_⟩, ⟨?_, ?_⟩⟩ <;> (show _ = _; go_simp)
    have HC : Hid (Chg a (b + 1) W ((W.setCell ⟨a, 0, none⟩ (.int .i64 r)).setCell ⟨b, 0, none⟩ (.int .i64 k))) := (chg_set (Nat.le_refl _) (by omega)).trans (chg_set (by omega) (Nat.lt_succ_self _))
    clear e1 e2 h
    go_enter Try.func85, Try.ntmps85
    go_wp2
    go_ret
    exact ⟨by first | rfl | (simp; done) | (simp; omega), H1.out, HC.out⟩
  · have e1 : lrStep (s1, s2) k r = (s1, s2) := by unfold lrStep; rw [if_neg hr]
    have e2 : lrGo (s1, s2) k r = decide (1 < s1) := by unfold lrGo; rw [e1]
    rw [e1, e2]
    have H1 := Lib.hid h
    clear e1 e2 h
    go_enter Try.func85, Try.ntmps85
    go_wp2
    go_ret
    exact ⟨by first | rfl | (simp; done) | (simp; omega), H1.out, Chg.refl _ _ _⟩

set_option maxRecDepth 100000 in
set_option maxHeartbeats 4000000 in
theorem implFirstCol_any (st : Int) (v : Value) (xss : List (List Int)) (w : World) (h1 : Rows2 w v xss) :
    Calls Try.prog 40 #[.agg #[.int .i64 st, v]] w (RetB (.tuple #[.int .i64 (frOf st xss), .int .i64 (frCd st xss)]) w) := by
  obtain ⟨ao, m, c, rfl, HM⟩ := h1.shape
  have bx : Below w.heap.size w ((w.alloc (.cells #[.int .i64 st, .slice ao m c] 42)).alloc (.cells #[.int .i64 (-1)] 2)) := (below_alloc (below_alloc (Below.refl _ _) _) _)
  have HCO := Lib.hid (colourings_any st _ xss 88 #[.pointer (some ⟨w.heap.size + 1, 0, none⟩)] (w.heap.size + 1) (w.heap.size + 1 + 1) (fun k s W => Num1 (w.heap.size + 1) s W) frStep frGo (-1) w ((w.alloc (.cells #[.int .i64 st, .slice ao m c] 42)).alloc (.cells #[.int .i64 (-1)] 2)) h1 bx (by omega) (by omega) (by simp) (fun _ _ => by kernel_rfl) ⟨by go_simp, by go_simp⟩ (fun _ _ _ _ h hb => h.below hb) (fun s k r l W hk hr hI => frLit_any _ k r l s W hI))
  rw [show (runC frStep frGo (rkX xss) (-1) (cntOf (choices xss))).1 = frX xss from fr_first _ _] at HCO
  by_cases hc : colCd st xss = 0
  · rw [show frOf st xss = if frX xss < 0 then 0 else frX xss by unfold frOf; rw [if_pos hc], show frCd st xss = if frX xss < 0 then 6 else 0 by unfold frCd; rw [if_pos hc]]
    rw [hc] at HCO
    clear hc h1
    generalize frX xss = fx at HCO ⊢
    by_cases hf : fx < 0
    · rw [if_pos hf, if_pos hf]
      go_enter Try.func40, Try.ntmps40
      go_wp2_with fail
      refine HCO.out.mono ?_
      rintro e w3 ⟨rfl, hch, hfin⟩
      have hbb : Below w.heap.size w w3 := bx.trans ((hch.below (by simp; try omega)).mono (by omega))
      obtain ⟨k, hk, hn⟩ := hfin rfl
      have q0 := hn.1
      have lq := block_lt_of_cell q0
      clear hfin hn
      go_wp2
      go_ret2
      exact ⟨rfl, hbb⟩
    · rw [if_neg hf, if_neg hf]
      go_enter Try.func40, Try.ntmps40
      go_wp2_with fail
      refine HCO.out.mono ?_
      rintro e w3 ⟨rfl, hch, hfin⟩
      have hbb : Below w.heap.size w w3 := bx.trans ((hch.below (by simp; try omega)).mono (by omega))
      obtain ⟨k, hk, hn⟩ := hfin rfl
      have q0 := hn.1
      have lq := block_lt_of_cell q0
      clear hfin hn
      go_wp2
      go_ret2
      exact ⟨rfl, hbb⟩
  · rw [show frOf st xss = 0 by unfold frOf; rw [if_neg hc], show frCd st xss = colCd st xss by unfold frCd; rw [if_neg hc]]
    generalize colCd st xss = cd at HCO hc ⊢
    have hcb : (cd != 0) = true := by simp; exact hc
    have hcc : (cd == 0) = false := by simp; exact hc
    have HC := Lib.hid hc
    clear hc h1
    go_enter Try.func40, Try.ntmps40
    go_wp2_with fail
    refine HCO.out.mono ?_
    rintro e w3 ⟨rfl, hch, hfin⟩
    have hbb : Below w.heap.size w w3 := bx.trans ((hch.below (by simp; try omega)).mono (by omega))
    clear hfin
    go_wp2
    go_ret2
    exact ⟨rfl, hbb⟩

set_option maxRecDepth 100000 in
set_option maxHeartbeats 4000000 in
theorem implCntReset_any (st : Int) (v : Value) (xss : List (List Int)) (w : World) (h1 : Rows2 w v xss) :
    Calls Try.prog 38 #[.agg #[.int .i64 st, v]] w (RetB (.tuple #[.int .i64 (crOf st xss), .int .i64 (colCd st xss)]) w) := by
  obtain ⟨ao, m, c, rfl, HM⟩ := h1.shape
  have bx : Below w.heap.size w ((w.alloc (.cells #[.int .i64 st, .slice ao m c] 42)).alloc (.cells #[.int .i64 0] 2)) := (below_alloc (below_alloc (Below.refl _ _) _) _)
  have HCO := Lib.hid (colourings_any st _ xss 86 #[.pointer (some ⟨w.heap.size + 1, 0, none⟩)] (w.heap.size + 1) (w.heap.size + 1 + 1) (fun k s W => Num1 (w.heap.size + 1) s W ∧ 0 ≤ s ∧ s ≤ (k : Int)) crStep crGo 0 w ((w.alloc (.cells #[.int .i64 st, .slice ao m c] 42)).alloc (.cells #[.int .i64 0] 2)) h1 bx (by omega) (by omega) (by simp) (fun _ _ => by kernel_rfl) ⟨⟨by go_simp, by go_simp⟩, by omega⟩ (fun _ _ _ _ h hb => ⟨h.1.below hb, h.2⟩) (fun s k r l W hk hr hI => (crLit_any _ k r l s W hI.1 ⟨hI.2.1, by have := hI.2.2; omega⟩).mono fun e w' ⟨h1, h2, h3⟩ => ⟨h1, ⟨h2, by have := hI.2; unfold crStep; split <;> omega, by have := hI.2; unfold crStep; split <;> omega⟩, h3⟩))
  rw [show (runC crStep crGo (rkX xss) 0 (cntOf (choices xss))).1 = (crTo (rkX xss) (cntOf (choices xss)) : Int) by rw [cr_run]] at HCO
  by_cases hc : colCd st xss = 0
  · rw [show crOf st xss = (crTo (rkX xss) (cntOf (choices xss)) : Int) by unfold crOf; rw [if_pos hc], hc]
    rw [hc] at HCO
    clear hc h1
    generalize crTo (rkX xss) (cntOf (choices xss)) = ct at HCO ⊢
    go_enter Try.func38, Try.ntmps38
    go_wp2_with fail
    refine HCO.out.mono ?_
    rintro e w3 ⟨rfl, hch, hfin⟩
    have hbb : Below w.heap.size w w3 := bx.trans ((hch.below (by simp; try omega)).mono (by omega))
    obtain ⟨k, hk, hn, _⟩ := hfin rfl
    have q0 := hn.1
    have lq := block_lt_of_cell q0
    clear hfin hn
    go_wp2
    go_ret2
    exact ⟨rfl, hbb⟩
  · rw [show crOf st xss = 0 by unfold crOf; rw [if_neg hc]]
    generalize colCd st xss = cd at HCO hc ⊢
    have hcb : (cd != 0) = true := by simp; exact hc
    have hcc : (cd == 0) = false := by simp; exact hc
    have HC := Lib.hid hc
    clear hc h1
    go_enter Try.func38, Try.ntmps38
    go_wp2_with fail
    refine HCO.out.mono ?_
    rintro e w3 ⟨rfl, hch, hfin⟩
    have hbb : Below w.heap.size w w3 := bx.trans ((hch.below (by simp; try omega)).mono (by omega))
    clear hfin
    go_wp2
    go_ret2
    exact ⟨rfl, hbb⟩

set_option maxRecDepth 100000 in
set_option maxHeartbeats 4000000 in
theorem implLeastCol_any (st : Int) (v : Value) (xss : List (List Int)) (w : World) (h1 : Rows2 w v xss) :
    Calls Try.prog 36 #[.agg #[.int .i64 st, v]] w (RetB (.tuple #[.int .i64 (lrOf st xss), .int .i64 (lrAt st xss), .int .i64 (colCd st xss)]) w) := by
  obtain ⟨ao, m, c, rfl, HM⟩ := h1.shape
  have bx : Below w.heap.size w (((w.alloc (.cells #[.int .i64 st, .slice ao m c] 42)).alloc (.cells #[.int .i64 8] 2)).alloc (.cells #[.int .i64 0] 2)) := (below_alloc (below_alloc (below_alloc (Below.refl _ _) _) _) _)
  have HCO := Lib.hid (colourings_any st _ xss 85 #[.pointer (some ⟨w.heap.size + 1, 0, none⟩), .pointer (some ⟨w.heap.size + 1 + 1, 0, none⟩)] (w.heap.size + 1) (w.heap.size + 1 + 2) (fun k s W => Num2 (w.heap.size + 1) (w.heap.size + 1 + 1) s W) lrStep lrGo (8, 0) w (((w.alloc (.cells #[.int .i64 st, .slice ao m c] 42)).alloc (.cells #[.int .i64 8] 2)).alloc (.cells #[.int .i64 0] 2)) h1 bx (by omega) (by omega) (by simp) (fun _ _ => by kernel_rfl) ⟨⟨by show _ = _; go_simp, by go_simp⟩, ⟨by show _ = _; go_simp, by go_simp⟩⟩ (fun _ _ _ _ h hb => ⟨h.1.below hb, h.2.below hb⟩) (fun s k r l W hk hr hI => lrLit_any _ _ k r l s W hI rfl hr))
  rw [show (runC lrStep lrGo (rkX xss) (8, 0) (cntOf (choices xss))).1 = (runC lrStep lrGo (rkX xss) (8, 0) (cntOf (choices xss))).1 from rfl] at HCO
  by_cases hc : colCd st xss = 0
  · have hv : validR st xss = true := by
      cases hv : validR st xss
      · simp [colCd, hv] at hc
      · rfl
    obtain ⟨n, d, hg⟩ := goodR_of hv
    have hrun : (runC lrStep lrGo (rkX xss) (8, 0) (cntOf (choices xss))).1 = lrTo (rkX xss) (xss.length + 1, 0) (cntOf (choices xss)) := by
      have hc1 : 1 ≤ cntOf (choices xss) := by unfold cntOf; rw [hg.choices.len]; exact (hg.choices.cnt _ (Nat.le_refl _)).1
      obtain ⟨q, hq⟩ : ∃ q, cntOf (choices xss) = q + 1 := ⟨cntOf (choices xss) - 1, by omega⟩
      rw [hq, rkX_good hg, hg.len]
      exact (lr_run hg.hi (fun k => rkC_in hg.choices hg.lo hg.hi hg.d1 hg.d3 k) q).1
    rw [hrun] at HCO
    rw [show lrOf st xss = ((lrTo (rkX xss) (xss.length + 1, 0) (cntOf (choices xss))).1 : Int) by unfold lrOf; rw [if_pos hc], show lrAt st xss = ((lrTo (rkX xss) (xss.length + 1, 0) (cntOf (choices xss))).2 : Int) by unfold lrAt; rw [if_pos hc], hc]
    rw [hc] at HCO
    clear hc hv hg hrun h1
    generalize lrTo (rkX xss) (xss.length + 1, 0) (cntOf (choices xss)) = lt at HCO ⊢
    obtain ⟨l1, l2⟩ := lt
    go_enter Try.func36, Try.ntmps36
    go_wp2_with fail
    refine HCO.out.mono ?_
    rintro e w3 ⟨rfl, hch, hfin⟩
    have hbb : Below w.heap.size w w3 := bx.trans ((hch.below (by simp; try omega)).mono (by omega))
    obtain ⟨k, hk, hn, hn2⟩ := hfin rfl
    have q0 : w3.cell? ⟨w.heap.size + 1, 0, none⟩ = some (.int .i64 (l1 : Nat)) := hn.1
    have q1 : w3.cell? ⟨w.heap.size + 1 + 1, 0, none⟩ = some (.int .i64 (l2 : Nat)) := hn2.1
    have lq := block_lt_of_cell q0
    have lq2 := block_lt_of_cell q1
    clear hfin hn hn2
    go_wp2
    go_quiet (fail)
    go_wp2
    ((try simp only [Exit.inBlock, Exit.then]); refine bodyPost_ret (results_tmp3 rfl _ _ _) rfl ?_)
    exact ⟨rfl, below_drewN' hbb _⟩
  · rw [show lrOf st xss = 0 by unfold lrOf; rw [if_neg hc], show lrAt st xss = 0 by unfold lrAt; rw [if_neg hc]]
    generalize colCd st xss = cd at HCO hc ⊢
    have hcb : (cd != 0) = true := by simp; exact hc
    have hcc : (cd == 0) = false := by simp; exact hc
    have HC := Lib.hid hc
    clear hc h1
    go_enter Try.func36, Try.ntmps36
    go_wp2_with fail
    refine HCO.out.mono ?_
    rintro e w3 ⟨rfl, hch, hfin⟩
    have hbb : Below w.heap.size w w3 := bx.trans ((hch.below (by simp; try omega)).mono (by omega))
    clear hfin
    go_wp2
    ((try simp only [Exit.inBlock, Exit.then]); refine bodyPost_ret (results_tmp3 rfl _ _ _) rfl ?_)
    exact ⟨rfl, hbb⟩

set_option maxRecDepth 100000 in
set_option maxHeartbeats 4000000 in
theorem implHasCol_any (st : Int) (v : Value) (xss : List (List Int)) (w : World) (h1 : Rows2 w v xss) :
    Calls Try.prog 42 #[.agg #[.int .i64 st, v]] w (RetB (.tuple #[.bool (hrOk st xss), .int .i64 (colCd st xss)]) w) := by
  obtain ⟨ao, m, c, rfl, HM⟩ := h1.shape
  have bx : Below w.heap.size w (w.alloc (.cells #[.int .i64 st, .slice ao m c] 42)) := below_alloc (Below.refl _ _) _
  have HF := Lib.hid (implFirstCol_any st _ xss _ (h1.kept bx))
  have hcase : (frCd st xss = 6 ∧ hrOk st xss = false ∧ colCd st xss = 0) ∨ (frCd st xss = 0 ∧ hrOk st xss = true ∧ colCd st xss = 0) ∨ (frCd st xss = 1 ∧ hrOk st xss = false ∧ colCd st xss = 1) ∨ (frCd st xss = 3 ∧ hrOk st xss = false ∧ colCd st xss = 3) := by
    have h3 : colCd st xss = 0 ∨ colCd st xss = 1 ∨ colCd st xss = 3 := by
      unfold colCd
      split
      · split
        · exact .inr (.inr rfl)
        · exact .inl rfl
      · exact .inr (.inl rfl)
    rcases h3 with h | h | h
    · by_cases hf : frX xss < 0
      · left; simp [frCd, hrOk, h, hf]
      · right; left; simp [frCd, hrOk, h, hf]; omega
    · right; right; left; simp [frCd, hrOk, h]
    · right; right; right; simp [frCd, hrOk, h]
  generalize frCd st xss = fc at HF hcase
  generalize hrOk st xss = ho at hcase ⊢
  generalize colCd st xss = cc at hcase ⊢
  generalize frOf st xss = fo at HF
  clear h1
  rcases hcase with ⟨rfl, rfl, rfl⟩ | ⟨rfl, rfl, rfl⟩ | ⟨rfl, rfl, rfl⟩ | ⟨rfl, rfl, rfl⟩
  all_goals
    go_enter Try.func42, Try.ntmps42
    go_wp2_with fail
    refine HF.out.mono ?_
    rintro e w2 ⟨rfl, hb⟩
    go_wp2
    go_ret2
    exact ⟨rfl, below_trans bx hb⟩

end Go.Proofs.Ytlgnbbfhejjodaa
