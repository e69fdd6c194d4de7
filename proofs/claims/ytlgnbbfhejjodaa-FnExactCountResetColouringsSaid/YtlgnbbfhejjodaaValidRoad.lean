/- slices.IsSorted at int64, Roads.degree, ValidRoads, of the program. -/
import Derived.Test.YtlgnbbfhejjodaaSpecRoad
import Derived.Test.YtlgnbbfhejjodaaLex
namespace Go.Proofs.Ytlgnbbfhejjodaa
set_option linter.unusedVariables false
set_option linter.unusedSimpArgs false
open Go.ChangeShapes Go.WideShapes Go.ChangeAt Go.RowKit

theorem isNaN_any (x : Int) (w : World) : Calls Try.prog 152 #[.int .i64 x] w fun e w' => e = .returned (.bool false) ∧ w = w' := by
  have hb : (x != x) = false := by simp
  go_enter Try.func152, Try.ntmps152
  go_wp2
  go_ret
  exact ⟨rfl, rfl⟩
theorem cmpLess_any (x y : Int) (w : World) : Calls Try.prog 145 #[.int .i64 x, .int .i64 y] w fun e w' => e = .returned (.bool (decide (x < y))) ∧ w = w' := by
  generalize hb : decide (x < y) = b
  have HB := Lib.hid hb
  clear hb
  go_enter Try.func145, Try.ntmps145
  go_wp2_with fail
  refine (isNaN_any _ _).mono ?_
  rintro e w' ⟨rfl, rfl⟩
  have hb := HB.out
  go_wp2
  go_ret
  exact ⟨rfl, rfl⟩

theorem isSorted_any (v : Value) (zs : List Int) (w : World) (h1 : Ints w v zs) : Calls Try.prog 122 #[v] w (RetQ (.bool (sortedB zs)) w) := by
  obtain ⟨ao1, p1, o1, c1, H1⟩ := h1.open
  have hv := H1.val
  subst hv
  have hm := H1.len
  clear h1
  go_enter Try.func122, Try.ntmps122
  go_wp2
  go_loopw [3] (fun i wr => ∃ k : Nat, k ≤ zs.length ∧ i = .int .i64 ((k : Int) - 1) ∧ Hid (∀ j, k ≤ j → j < zs.length → (j == 0 || decide (zs.getD (j - 1) 0 ≤ zs.getD j 0)) = true) ∧ Qu w wr) (fun i _ => (intOf i + 1).toNat)
  case atStart => exact ⟨zs.length, Nat.le_refl _, by go_num, fun j h1 h2 => absurd h2 (by omega), Qu.refl _⟩
  case round =>
    obtain ⟨k, hk, rfl, hall, hq⟩ := hrel
    by_cases hlt : 2 ≤ k
    · have i1 := idx_at Try.underlying32 size1_int (c := c1) H1.adr (k := k - 1) (by omega) .i64 ((k : Int) - 1) (by omega)
      have i2 := idx_at Try.underlying32 size1_int (c := c1) H1.adr (k := k - 2) (by omega) .i64 ((k : Int) - 1 - 1) (by omega)
      obtain ⟨x, hx, d1⟩ := H1.at (k := k - 1) (by omega)
      obtain ⟨y, hy, d2⟩ := H1.at (k := k - 2) (by omega)
      replace d1 := hq.cell d1
      replace d2 := hq.cell d2
      have HX := Lib.hid hx
      have HY := Lib.hid hy
      have HC0 := fun n => cmpLess_any x y (wr.drewN n)
      cases hxy : decide (x < y)
      · rw [hxy] at HC0
        have HC := Lib.hid HC0
        have hd : y ≤ x := by simpa using hxy
        have HD := Lib.hid hd
        clear hx hy hxy HC0 hd
        have hwk := IntWalk.i64_in ((k : Int) - 1 - 1) (by omega)
        go_wp2
        go_quiet ((go_at_call 145; exact Calls.quiet_of_same' (HC.out _)))
        clear hwk
        go_wp2
        go_roundw
        case rel => exact ⟨k - 1, by omega, by congr 1; omega, fun j h1 h2 => by
          rcases Nat.lt_or_ge j k with h | h
          · obtain rfl : j = k - 1 := by omega
            rw [show k - 1 - 1 = k - 2 by omega, HX.out, HY.out]
            simp; right; exact HD.out
          · exact hall.out j h h2, hq.drewN _⟩
        case measure => simp [intOf]; omega
      · rw [hxy] at HC0
        have HC := Lib.hid HC0
        have hd : x < y := by simpa using hxy
        have HD := Lib.hid hd
        clear hx hy hxy HC0 hd
        have hwk := IntWalk.i64_in ((k : Int) - 1 - 1) (by omega)
        go_wp2
        go_quiet ((go_at_call 145; exact Calls.quiet_of_same' (HC.out _)))
        clear hwk
        go_wp2
        go_ret
        refine ⟨ret_bool (range_all_no (k := k - 1) (by omega) ?_).symm, hq.drewN _⟩
        have a := HX.out
        have b := HY.out
        have c := HD.out
        rw [show k - 1 - 1 = k - 2 by omega, a, b]
        have : (k - 1 == 0) = false := by simp; omega
        rw [this]; simp; omega
    · have hs : sortedB zs = true := by
        unfold sortedB
        rw [List.all_eq_true]
        intro j hj
        have hj' : j < zs.length := by simpa using hj
        rcases Nat.eq_zero_or_pos j with h0 | h0
        · subst h0; rfl
        · exact hall.out j (by omega) hj'
      have HS := Lib.hid hs
      clear hs
      go_wp2
      go_ret
      exact ⟨ret_bool HS.out.symm, hq⟩

theorem degree_any (t : Int) (v : Value) (xss : List (List Int)) (w : World) (h1 : Rows2 w v xss) (h0 : 0 < xss.length) :
    Calls Try.prog 120 #[.agg #[.int .i64 t, v]] w (RetB (.int .i64 ((xss.getD 0 []).length : Nat)) w) := by
  obtain ⟨ao1, p1, o1, c1, H1⟩ := h1.open
  have hv := H1.val
  subst hv
  obtain ⟨r0, e0, hr0⟩ := H1.cell 0 h0
  obtain ⟨ao0, p0, o0, c0, H0⟩ := hr0.open
  have hv0 := H0.val
  subst hv0
  have hm0 := H0.len
  have i0 := idx_at Try.underlying22 size1_ints (c := c1) H1.adr h0 .i64 0 rfl
  rw [Nat.add_zero] at e0 i0
  have l0 := block_lt_of_cell e0
  generalize (xss.getD 0 []).length = L at e0 hm0 ⊢
  clear H0 hr0 H1
  go_enter Try.func120, Try.ntmps120
  go_wp2_with fail
  refine (sizeInts_any _ _ _ _ hm0).mono ?_
  rintro e w2 ⟨rfl, rfl⟩
  go_wp2
  go_ret
  exact ⟨rfl, below_alloc (Below.refl _ _) _⟩

theorem validRoadLit_any (v : Value) (zs : List Int) (b : Nat) (t : Int) (vr : Value) (xss : List (List Int)) (w : World) (h1 : Ints w v zs) (hR : Rows2 w vr xss) (h0 : 0 < xss.length) (d0 : w.cell? ⟨b, 0, none⟩ = some (.int .i64 t)) (d1 : w.cell? ⟨b, 1, none⟩ = some vr) (ht : 1 ≤ t ∧ t ≤ 10) :
    Calls Try.prog 121 #[v, .pointer (some ⟨b, 0, none⟩)] w (RetB (.bool (!roadB (xss.getD 0 []).length t zs)) w) := by
  obtain ⟨ao, p, o, c, H⟩ := h1.open
  have hv := H.val
  subst hv
  have hm := H.len
  obtain ⟨ao1, p1, o1, c1, H1⟩ := hR.open
  have hv1 := H1.val
  subst hv1
  obtain ⟨r0, e0, hr0⟩ := H1.cell 0 h0
  obtain ⟨ao0, p0, o0, c0, H0⟩ := hr0.open
  have hv0 := H0.val
  subst hv0
  have hm0 := H0.len
  have i0 := idx_at Try.underlying22 size1_ints (c := c1) H1.adr h0 .i64 0 rfl
  rw [Nat.add_zero] at e0 i0
  obtain ⟨ht1, ht2⟩ := ht
  obtain ⟨L, hL⟩ : ∃ L, L = (xss.getD 0 []).length := ⟨_, rfl⟩
  rw [← hL] at e0 hm0 ⊢
  have HA0 := fun W (hW : Below w.heap.size w W) => areWithin_any _ zs 0 (t - 1) W (h1.kept hW)
  have HS0 := fun W (hW : Below w.heap.size w W) => isSorted_any _ zs W (h1.kept hW)
  clear hL H0 hr0
  by_cases hl : zs.length = L
  · have hb : ((zs.length : Int) != L) = false := by simp [hl]
    cases ha : allIn zs 0 (t - 1)
    · rw [show roadB L t zs = false by unfold roadB; rw [ha]; simp]
      rw [ha] at HA0
      have HA := Lib.hid HA0
      obtain ⟨n, hn⟩ : ∃ n, n = zs.length := ⟨_, rfl⟩
      rw [← hn] at hb hm HA ⊢
      clear HA0 HS0 hl ha hn h1 hR H H1
      go_enter Try.func121, Try.ntmps121
      go_wp2_with fail
      refine (HA.out _ (Below.refl _ _)).mono ?_
      rintro e w2 ⟨rfl, hb2⟩
      go_wp2
      go_ret
      exact ⟨rfl, hb2⟩
    · rw [show roadB L t zs = sortedB zs by unfold roadB; rw [ha]; simp [hl]]
      rw [ha] at HA0
      have HA := Lib.hid HA0
      generalize sortedB zs = q at HS0
      have HS := Lib.hid HS0
      obtain ⟨n, hn⟩ : ∃ n, n = zs.length := ⟨_, rfl⟩
      rw [← hn] at hb hm HA HS ⊢
      clear HA0 HS0 hl ha hn h1 hR H H1
      go_enter Try.func121, Try.ntmps121
      go_wp2_with fail
      refine (HA.out _ (Below.refl _ _)).mono ?_
      rintro e w2 ⟨rfl, hb2⟩
      go_wp2_with fail
      refine (HS.out _ hb2).mono ?_
      rintro e w3 ⟨rfl, hq3⟩
      go_wp2
      go_ret
      exact ⟨rfl, hb2.trans (hq3.below _)⟩
  · have hb : ((zs.length : Int) != L) = true := by simp; omega
    rw [show roadB L t zs = false by unfold roadB; simp [hl]]
    obtain ⟨n, hn⟩ : ∃ n, n = zs.length := ⟨_, rfl⟩
    rw [← hn] at hb hm ⊢
    clear HA0 HS0 hl hn h1 hR H H1
    go_enter Try.func121, Try.ntmps121
    go_wp2
    go_ret
    exact ⟨rfl, Below.refl _ _⟩

theorem roadsB_anyAt (L : Nat) (t : Int) (xss : List (List Int)) : anyAt (fun k => !roadB L t (xss.getD k [])) xss.length = !xss.all (roadB L t) := by
  rw [Bool.eq_iff_iff]
  rw [anyAt_true]
  simp only [Bool.not_eq_true', List.all_eq_false, Bool.not_eq_true]
  constructor
  · rintro ⟨k, hk, h⟩
    exact ⟨xss[k], List.getElem_mem hk, by simpa [List.getD_eq_getElem?_getD, hk] using h⟩
  · rintro ⟨z, hz, h⟩
    obtain ⟨k, hk, rfl⟩ := List.getElem_of_mem hz
    exact ⟨k, hk, by simpa [List.getD_eq_getElem?_getD, hk] using h⟩

theorem validRoad_any (t : Int) (v : Value) (xss : List (List Int)) (w : World) (h1 : Rows2 w v xss) :
    Calls Try.prog 75 #[.agg #[.int .i64 t, v]] w (RetB (.bool (validR t xss)) w) := by
  obtain ⟨ao, b, o, c, H1⟩ := h1.open
  have hv := H1.val
  have hm := H1.len
  subst hv
  clear H1
  have c0 : (w.alloc (.cells #[.int .i64 t, .slice ao xss.length c] 42)).cell? ⟨w.heap.size, 0, none⟩ = some (.int .i64 t) := by go_simp
  have c1 : (w.alloc (.cells #[.int .i64 t, .slice ao xss.length c] 42)).cell? ⟨w.heap.size, 1, none⟩ = some (.slice ao xss.length c) := by go_simp
  have b0 : Below w.heap.size w (w.alloc (.cells #[.int .i64 t, .slice ao xss.length c] 42)) := below_alloc (Below.refl _ _) _
  have h1' := h1.kept b0
  have HC0 := fun W => within_any t 1 7 W
  cases hA : inB t 1 7
  · rw [show validR t xss = false by simp [validR, hA]]
    rw [hA] at HC0
    have HC := Lib.hid HC0
    clear hA h1 h1' HC0
    go_enter Try.func75, Try.ntmps75
    go_wp2
    generalize w.alloc (.cells #[.int .i64 t, .slice ao xss.length c] 42) = w0 at c0 c1 b0 ⊢
    have l0 := block_lt_of_cell c0
    go_quiet ((go_at_call 80; exact Calls.quiet_of_same' (HC.out _)))
    go_wp2
    go_ret
    exact ⟨rfl, below_drewN' b0 _⟩
  rw [hA] at HC0
  have HC := Lib.hid HC0
  clear HC0
  by_cases hlen : (xss.length : Int) = t
  · have hb1 : ((xss.length : Int) == t) = true := by simp [hlen]
    have hpos : 0 < xss.length := by have := inB_true.1 hA; omega
    have ht := inB_true.1 hA
    have HD0 := fun W (hW : Below w.heap.size w W) => degree_any t _ xss W (h1.kept hW) hpos
    have HB0 := fun W => within_any ((xss.getD 0 []).length : Nat) 1 3 W
    cases hB : inB ((xss.getD 0 []).length : Nat) 1 3
    · rw [show validR t xss = false by unfold validR; rw [hB]; simp]
      rw [hB] at HB0
      obtain ⟨L, hL⟩ : ∃ L, L = (xss.getD 0 []).length := ⟨_, rfl⟩
      rw [← hL] at HD0 HB0
      obtain ⟨n, hn⟩ : ∃ n, n = xss.length := ⟨_, rfl⟩
      rw [← hn] at hm hb1 c0 c1 b0 HD0 ⊢
      have HB := Lib.hid HB0
      have HDg := Lib.hid HD0
      clear hA hB HB0 HD0 h1 h1' hlen hL hn ht hpos
      go_enter Try.func75, Try.ntmps75
      go_wp2
      generalize w.alloc (.cells #[.int .i64 t, .slice ao n c] 42) = w0 at c0 c1 b0 ⊢
      have l0 := block_lt_of_cell c0
      have hx := fun x : BW w0 => x.cell
      refine wp_region_below (by kernel_rfl) (by kernel_rfl) ?_
      repeat (go_big_quiet_step ((first | (go_at_call_of 80 (Value.int IntKind.i64 t); exact calls_lex (RetB.of_eq (HC.out _))) | (go_at_call 80; exact calls_lex (RetB.of_eq (HB.out _))) | (go_at_call 119; exact calls_lex (RetB.of_eq' (sizeRows_any _ _ _ _ hm))) | (go_at_call 120; exact calls_lex (HDg.out _ (below_trans b0 (BW.below _)))))))
      refine wpQuiet_nil ?_
      rintro _ ⟨x, rfl⟩
      have hb1 := x.below
      generalize x.val = w1 at hb1 ⊢
      clear hx
      go_wp2
      go_ret
      exact ⟨rfl, below_trans b0 hb1⟩
    · rw [show validR t xss = roadsB t xss by unfold validR; rw [hA, hB, decide_eq_true hlen]; simp]
      rw [hB] at HB0
      have eg : ∀ args w, (callFunc 121 args).run Try.prog w = .ok (.enter 121 args) w := fun _ _ => by kernel_rfl
      have HF0 : ∀ W, Below (w.alloc (.cells #[.int .i64 t, .slice ao xss.length c] 42)).heap.size (w.alloc (.cells #[.int .i64 t, .slice ao xss.length c] 42)) W →
          Calls Try.prog 108 #[.slice ao xss.length c, .func (.func 121) #[] #[.pointer (some ⟨w.heap.size, 0, none⟩)]] W (RetB (.bool (!roadsB t xss)) W) := by
        intro W hW'
        have hbw : Below w.heap.size w W := below_trans b0 hW'
        obtain ⟨rs, hs, hn, hr⟩ := h1.kept hbw
        have C := containsFuncRows_any _ rs 121 #[.pointer (some ⟨w.heap.size, 0, none⟩)] (fun k => !roadB (xss.getD 0 []).length t (xss.getD k [])) W hs eg (fun k hk W2 hW2 => by
          refine validRoadLit_any _ _ w.heap.size t _ xss W2 ((hr k (by omega)).kept hW2) ((h1.kept hbw).kept hW2) hpos ?_ ?_ (by omega)
          · exact below_cell hW2 (below_cell hW' c0)
          · exact below_cell hW2 (below_cell hW' c1))
        rw [hn, roadsB_anyAt] at C
        exact C
      obtain ⟨L, hL⟩ : ∃ L, L = (xss.getD 0 []).length := ⟨_, rfl⟩
      rw [← hL] at HD0 HB0
      generalize roadsB t xss = q at HF0 ⊢
      obtain ⟨n, hn⟩ : ∃ n, n = xss.length := ⟨_, rfl⟩
      rw [← hn] at hm hb1 c0 c1 b0 HD0 HF0 ⊢
      have HB := Lib.hid HB0
      have HDg := Lib.hid HD0
      clear hA hB HB0 HD0 h1 h1' hlen hL hn ht hpos eg
      go_enter Try.func75, Try.ntmps75
      go_wp2
      generalize w.alloc (.cells #[.int .i64 t, .slice ao n c] 42) = w0 at c0 c1 b0 HF0 ⊢
      have HF := Lib.hid HF0
      clear HF0
      have l0 := block_lt_of_cell c0
      have hx := fun x : BW w0 => x.cell
      refine wp_region_below (by kernel_rfl) (by kernel_rfl) ?_
      repeat (go_big_quiet_step ((first | (go_at_call_of 80 (Value.int IntKind.i64 t); exact calls_lex (RetB.of_eq (HC.out _))) | (go_at_call 80; exact calls_lex (RetB.of_eq (HB.out _))) | (go_at_call 119; exact calls_lex (RetB.of_eq' (sizeRows_any _ _ _ _ hm))) | (go_at_call 120; exact calls_lex (HDg.out _ (below_trans b0 (BW.below _)))) | (go_at_call 108; exact calls_lex (HF.out _ (BW.below _))))))
      refine wpQuiet_nil ?_
      rintro _ ⟨x, rfl⟩
      have hb1 := x.below
      generalize x.val = w1 at hb1 ⊢
      clear hx
      go_wp2
      go_ret
      exact ⟨rfl, below_trans b0 hb1⟩
  · have hb1 : ((xss.length : Int) == t) = false := by simp [hlen]
    rw [show validR t xss = false by unfold validR; rw [decide_eq_false hlen]; simp]
    obtain ⟨n, hn⟩ : ∃ n, n = xss.length := ⟨_, rfl⟩
    rw [← hn] at hm hb1 c0 c1 b0 ⊢
    clear hA h1 h1' hlen hn
    go_enter Try.func75, Try.ntmps75
    go_wp2
    generalize w.alloc (.cells #[.int .i64 t, .slice ao n c] 42) = w0 at c0 c1 b0 ⊢
    have l0 := block_lt_of_cell c0
    have hx := fun x : BW w0 => x.cell
    refine wp_region_below (by kernel_rfl) (by kernel_rfl) ?_
    repeat (go_big_quiet_step ((first | (go_at_call 80; exact calls_lex (RetB.of_eq (HC.out _))) | (go_at_call 119; exact calls_lex (RetB.of_eq' (sizeRows_any _ _ _ _ hm))))))
    refine wpQuiet_nil ?_
    rintro _ ⟨x, rfl⟩
    have hb1 := x.below
    generalize x.val = w1 at hb1 ⊢
    clear hx
    go_wp2
    go_ret
    exact ⟨rfl, below_trans b0 hb1⟩

end Go.Proofs.Ytlgnbbfhejjodaa
