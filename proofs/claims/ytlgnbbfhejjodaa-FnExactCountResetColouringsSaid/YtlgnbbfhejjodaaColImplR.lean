/- colourings of the program: what it tells its caller of all colourings. -/
import Derived.Test.YtlgnbbfhejjodaaColLaw
import Derived.Test.YtlgnbbfhejjodaaColImpl
import Derived.Test.YtlgnbbfhejjodaaSurvey
namespace Go.Proofs.Ytlgnbbfhejjodaa
set_option linter.unusedVariables false
set_option linter.unusedSimpArgs false
open Go.ChangeShapes Go.WideShapes Go.ChangeAt Go.RowKit

theorem chg_below {lo hi : Nat} {w w' : World} (h : Below w.heap.size w w') : Chg lo hi w w' := ⟨h.os, h.tape, h.output, h.size, fun k hk _ => h.block k hk⟩
theorem OwnLists.chg {w w' : World} {lo lo1 hi1 : Nat} {v : Value} {rs : List Value} {zsss : List (List (List Int))} (h : OwnLists w lo v rs zsss) (hb : Chg lo1 hi1 w w') (hl : hi1 ≤ lo) : OwnLists w' lo v rs zsss := by
  have A : ∀ {e : TypeId} {s n : Nat} {u : Value} {xs : List Value}, w.ownsRow lo e s u n xs → w'.ownsRow lo e s u n xs := fun {e s n u xs} ho => own_chg ho hb fun g hg => .inr (Nat.le_trans hl (own_block ho hg).1)
  exact ⟨A h.outer, fun k hk => by obtain ⟨rss, h1⟩ := h.row k hk; exact ⟨rss, A h1.outer, fun j hj => A (h1.row j hj), h1.apart⟩⟩

/-- what is asked of the caller's function: told of colouring k it goes from one state to the next -/
def Paints {σ : Type} (g : FuncId) (lb : Array Value) (lo hi : Nat) (I : Nat → σ → World → Prop) (step : σ → Nat → Nat → σ) (go : σ → Nat → Nat → Bool) : Prop :=
  ∀ s (k r : Nat) (l : Int) W, k ≤ 50000 → r ≤ 7 → I k s W → Calls Try.prog g (#[.int .i64 k, .int .i64 r, .int .i64 l] ++ lb) W fun e w' => e = .returned (.bool (go s k r)) ∧ I (k + 1) (step s k r) w' ∧ Chg lo hi W w'

def ColPost {σ : Type} (lo hi : Nat) (I : Nat → σ → World → Prop) (cd : Int) (s : σ) (cn : Nat) (w : World) (e : Ending) (w' : World) : Prop :=
  e = .returned (.int .i64 cd) ∧ Chg lo hi w w' ∧ (cd = 0 → ∃ k, k ≤ cn ∧ I k s w')

set_option maxRecDepth 100000 in
set_option maxHeartbeats 4000000 in
theorem colourings_any {σ : Type} (st : Int) (v : Value) (xss : List (List Int)) (g : FuncId) (lb : Array Value) (lo hi : Nat) (I : Nat → σ → World → Prop) (step : σ → Nat → Nat → σ) (go : σ → Nat → Nat → Bool) (s : σ) (w0 w : World) (h0 : Rows2 w0 v xss) (hb0 : Below w0.heap.size w0 w) (hlo : w0.heap.size ≤ lo) (hlh : lo ≤ hi) (hhi : hi ≤ w.heap.size)
    (eg : ∀ args w, (callFunc g args).run Try.prog w = .ok (.enter g args) w) (hI : I 0 s w) (hstay : ∀ k s W W', I k s W → Below W.heap.size W W' → I k s W') (hask : Paints g lb lo hi I step go) :
    Calls Try.prog 84 #[.agg #[.int .i64 st, v], .func (.func g) #[] lb] w (ColPost lo hi I (colCd st xss) (runC step go (rkX xss) s (cntOf (choices xss))).1 (cntOf (choices xss)) w) := by
  obtain ⟨ao, m, c, rfl, HM⟩ := h0.shape
  have bx : Below w.heap.size w (w.alloc (.cells #[.int .i64 st, .slice ao m c] 42)) := below_alloc (Below.refl _ _) _
  have p0 : (w.alloc (.cells #[.int .i64 st, .slice ao m c] 42)).cell? ⟨w.heap.size, 0, none⟩ = some (.int .i64 st) := by go_simp
  have p1 : (w.alloc (.cells #[.int .i64 st, .slice ao m c] 42)).cell? ⟨w.heap.size, 1, none⟩ = some (.slice ao m c) := by go_simp
  have HOK := Lib.hid (validRoad_any st _ xss _ (h0.kept (below_trans hb0 bx)))
  cases hv : validR st xss
  · rw [show colCd st xss = 1 by simp [colCd, hv]]
    rw [hv] at HOK
    generalize (runC step go (rkX xss) s (cntOf (choices xss))).1 = sf
    clear hv h0 hask hstay hI hb0
    go_enter Try.func84, Try.ntmps84
    go_wp2_with fail
    refine HOK.out.mono ?_
    rintro e w2 ⟨rfl, hb⟩
    go_wp2
    go_ret
    exact ⟨rfl, chg_below (below_trans bx hb), fun h => absurd h (by decide)⟩
  · obtain ⟨n, d, hg⟩ := goodR_of hv
    obtain rfl := hg.st
    rw [hv] at HOK
    have hgl := hg.choices
    have HNP := Lib.hid (fun W (hW : Below w0.heap.size w0 W) => newPaint_any n _ xss W (h0.kept hW) (by rw [hg.len]; exact hg.hi) (fun s hs => by rw [hg.row s (by rw [← hg.len]; exact hs)]; exact hg.d3))
    have HCN := Lib.hid (fun (u : Value) W (h : Rows3 W u (choices xss)) => paintCount_any n ao m c u (choices xss) n d W h hgl hg.hi)
    have HAT := Lib.hid (fun zn (hzn : zn ≤ 279936) (u : Value) W (hW : Below w0.heap.size w0 W) (h : Rows3 W u (choices xss)) => paintAt_any _ u xss (choices xss) n d zn W (h0.kept hW) h hgl (by rw [hg.len]; exact hg.lo) (hg.row 0 hg.lo) hg.lo hg.hi hg.d1 hg.d3 hzn)
    have HSV := Lib.hid (fun k (u : Value) W (h : Rows2 W u (colRows (choices xss) d k)) => survey_any n u (colRows (choices xss) d k) n W h (hgl.good hg.lo hg.hi hg.d1 hg.d3 k) hg.hi)
    have HRB := Lib.hid (fun k => (rkC_in hgl hg.lo hg.hi hg.d1 hg.d3 k).2)
    have HRC : Hid (∀ k, rankT (tourOf (colRows (choices xss) d k) (2 ^ n - 1)) = rkC n d (choices xss) k) := fun _ => rfl
    have hcn : cntOf (choices xss) ≤ 279936 := by unfold cntOf; rw [hgl.len]; exact hgl.cnt7 hg.hi (Nat.le_refl _)
    have hn7 := hg.hi
    have HCD : Hid (colCd n xss = if 50000 < cntOf (choices xss) then 3 else 0) := by simp [Hid, colCd, hv]
    rw [rkX_good hg]
    generalize rkC n d (choices xss) = rk at HRB HRC ⊢
    generalize cntOf (choices xss) = cn at HCN HCD hcn ⊢
    generalize choices xss = ls at HCN HNP HAT HSV HRC
    have HASK := Lib.hid hask
    have HSTAY := Lib.hid hstay
    have HI := Lib.hid hI
    have HON := Lib.hid (fun k => runC_on (step := step) (go := go) (rk := rk) (s := s) (k := k))
    have HOFF := Lib.hid (fun k => runC_off (step := step) (go := go) (rk := rk) (s := s) (k := k))
    have HR0 : Hid (runC step go rk s 0 = (s, true)) := rfl
    clear hv hg hgl h0 hask hstay hI
    by_cases hc : 50000 < cn
    · have hc3 : colCd n xss = 3 := by rw [HCD.out, if_pos hc]
      rw [hc3]
      generalize (runC step go rk s cn).1 = sf
      clear HASK HSTAY HI HON HOFF hc3 HCD
      go_enter Try.func84, Try.ntmps84
      go_wp2_with fail
      refine HOK.out.mono ?_
      rintro e w2 ⟨rfl, hb⟩
      replace p0 := below_cell hb p0
      replace p1 := below_cell hb p1
      have bw2 := below_trans bx hb
      go_wp2_with fail
      refine (HNP.out _ (below_trans hb0 bw2)).mono ?_
      rintro e w3 ⟨v3, rs3, rfl, ho3, hb3⟩
      have hal : Below w3.heap.size w3 (w3.alloc (.cells #[.int .i64 (n : Int), .slice ao m c, v3] 95)) := below_alloc (Below.refl _ _) _
      have hr3 := ho3.reads.kept hal
      obtain ⟨a3, m3, c3, rfl, HM3⟩ := own_shape ho3.outer
      clear ho3
      go_wp2_with fail
      refine (HCN.out _ _ hr3).mono ?_
      rintro e w4 ⟨rfl, hb4⟩
      have bw4 := below_trans bw2 (below_trans hb3 (below_trans hal hb4))
      clear hr3
      go_wp2
      go_ret
      exact ⟨rfl, chg_below bw4, fun h => absurd h (by decide)⟩
    · have hc3 : colCd n xss = 0 := by rw [HCD.out, if_neg hc]
      rw [hc3]
      clear hc3 HCD
      obtain ⟨sf, hsf⟩ : ∃ sf, sf = (runC step go rk s cn).1 := ⟨_, rfl⟩
      rw [← hsf]
      have HSF := Lib.hid hsf
      clear hsf
      go_enter Try.func84, Try.ntmps84
      go_wp2_with fail
      refine HOK.out.mono ?_
      rintro e w2 ⟨rfl, hb⟩
      replace p0 := below_cell hb p0
      replace p1 := below_cell hb p1
      have bw2 := below_trans bx hb
      go_wp2_with fail
      refine (HNP.out _ (below_trans hb0 bw2)).mono ?_
      rintro e w3 ⟨v3, rs3, rfl, ho3, hb3⟩
      obtain ⟨a3, m3, c3, rfl, HM3⟩ := own_shape ho3.outer
      have hal : Below w3.heap.size w3 (w3.alloc (.cells #[.int .i64 (n : Int), .slice ao m c, .slice a3 m3 c3] 95)) := below_alloc (Below.refl _ _) _
      have t0 : (w3.alloc (.cells #[.int .i64 (n : Int), .slice ao m c, .slice a3 m3 c3] 95)).cell? ⟨w3.heap.size, 0, none⟩ = some (.int .i64 n) := by go_simp
      have t1 : (w3.alloc (.cells #[.int .i64 (n : Int), .slice ao m c, .slice a3 m3 c3] 95)).cell? ⟨w3.heap.size, 1, none⟩ = some (.slice ao m c) := by go_simp
      have t2 : (w3.alloc (.cells #[.int .i64 (n : Int), .slice ao m c, .slice a3 m3 c3] 95)).cell? ⟨w3.heap.size, 2, none⟩ = some (.slice a3 m3 c3) := by go_simp
      have ho4 := ho3.below hal
      have bw3 : Below w.heap.size w (w3.alloc (.cells #[.int .i64 (n : Int), .slice ao m c, .slice a3 m3 c3] 95)) := below_trans bw2 (below_trans hb3 hal)
      clear ho3
      go_wp2_with fail
      refine (HCN.out _ _ ho4.reads).mono ?_
      rintro e w4 ⟨rfl, hb4⟩
      replace t0 := below_cell hb4 t0
      replace t1 := below_cell hb4 t1
      replace t2 := below_cell hb4 t2
      have lt0 := block_lt_of_cell t0
      have ho5 := ho4.below hb4
      have bw4 := below_trans bw3 hb4
      clear ho4
      go_wp2_with fail
      refine (HCN.out _ _ ho5.reads).mono ?_
      rintro e w5 ⟨rfl, hb5⟩
      replace t0 := below_cell hb5 t0
      replace t1 := below_cell hb5 t1
      replace t2 := below_cell hb5 t2
      have HO6 := Lib.hid (ho5.below hb5)
      have bw5 := below_trans bw4 hb5
      have HI5 := Lib.hid (HSTAY.out _ _ _ _ HI.out bw5)
      have hsz2 : hi ≤ w2.heap.size := Nat.le_trans hhi bw2.size
      have hpb : hi ≤ w3.heap.size := Nat.le_trans hsz2 hb3.size
      obtain ⟨pb, hpbe⟩ : ∃ pb, pb = w3.heap.size := ⟨_, rfl⟩
      rw [← hpbe] at t0 t1 t2 hpb
      rw [← hpbe]
      clear ho5 hpbe HNP lt0 hb4 hb5 hal p0 p1
      go_wp2
      go_loopw [19] (fun i wr => ∃ k : Nat, k ≤ cn ∧ i = .int .i64 k ∧ Hid ((runC step go rk s k).2 = true ∧ I k (runC step go rk s k).1 wr) ∧ Chg lo hi w5 wr) (fun i _ => cn - (intOf i).toNat)
      case atStart => exact ⟨0, Nat.zero_le _, rfl, ⟨by rw [HR0.out], by rw [HR0.out]; exact HI5.out⟩, Chg.refl _ _ _⟩
      case round =>
        obtain ⟨k, hk, rfl, HK, hch⟩ := hrel
        have q0 := hch.cell t0 (.inr hpb)
        have q1 := hch.cell t1 (.inr hpb)
        have q2 := hch.cell t2 (.inr hpb)
        have lq := block_lt_of_cell q0
        have hbr : Below w0.heap.size w0 wr := (below_trans hb0 bw5).trans ((hch.below (by have := bw5.size; omega)).mono hlo)
        have HOR := Lib.hid (HO6.out.chg hch hsz2)
        by_cases hlt : k < cn
        · go_wp2_with fail
          refine (HAT.out k (by omega) _ _ hbr HOR.out.reads).mono ?_
          rintro e w6 ⟨v6, rs6, rfl, ho6, hb6⟩
          have hr6 := ho6.reads
          obtain ⟨a6, m6, c6, rfl, HM6⟩ := own_shape ho6.outer
          clear ho6
          go_wp2_with fail
          refine (HSV.out k _ _ hr6).mono ?_
          rintro e w7 ⟨l, rfl, hb7⟩
          rw [HRC.out k]
          have hb8 := below_trans hb6 hb7
          have HI8 := Lib.hid (HSTAY.out _ _ _ _ HK.out.2 hb8)
          have HAS := Lib.hid (HASK.out _ k (rk k) l w7 (by omega) (by have := HRB.out k; omega) HI8.out)
          have HN := Lib.hid (HON.out k HK.out.1)
          have hch8 : Chg lo hi w5 w7 := hch.trans (chg_below hb8)
          clear hr6
          go_wp2_with fail
          refine HAS.out.mono ?_
          rintro e w9 ⟨rfl, hI9, hch9⟩
          have hch10 := hch8.trans hch9
          have HI9 := Lib.hid hI9
          clear hI9
          cases hgo : go (runC step go rk s k).1 k (rk k)
          · have HE : Hid ((runC step go rk s cn).1 = step (runC step go rk s k).1 k (rk k)) := by
              have h1 : (runC step go rk s (k + 1)).2 = false := by rw [HN.out]; exact hgo
              have h2 := HOFF.out (k + 1) h1 (cn - (k + 1))
              rw [show k + 1 + (cn - (k + 1)) = cn by omega] at h2
              unfold Hid
              rw [h2, HN.out]
            have HGO := Lib.hid hgo
            clear hgo
            go_wp2
            go_ret
            exact ⟨rfl, (chg_below bw5).trans hch10, fun _ => ⟨k + 1, by omega, by rw [HSF.out, HE.out]; exact HI9.out⟩⟩
          · have HK2 : Hid ((runC step go rk s (k + 1)).2 = true ∧ I (k + 1) (runC step go rk s (k + 1)).1 w9) := by
              unfold Hid
              rw [HN.out]
              exact ⟨hgo, HI9.out⟩
            have HGO := Lib.hid hgo
            clear hgo
            go_wp2
            go_roundw
            case rel => exact ⟨k + 1, by omega, by go_num, HK2.out, hch10⟩
            case measure => simp [intOf]; omega
        · obtain rfl : k = cn := by omega
          go_wp2
          go_ret
          exact ⟨rfl, (chg_below bw5).trans hch, fun _ => ⟨k, Nat.le_refl _, by rw [HSF.out]; exact HK.out.2⟩⟩

end Go.Proofs.Ytlgnbbfhejjodaa
