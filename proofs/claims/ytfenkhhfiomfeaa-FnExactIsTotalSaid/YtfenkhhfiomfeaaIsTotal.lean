/- IsTotal, of the program and of the reference. -/
import Derived.Test.YtfenkhhfiomfeaaValidChoice
namespace Go.Proofs.Ytfenkhhfiomfeaa
set_option linter.unusedVariables false
set_option linter.unusedSimpArgs false
open Go.ChangeShapes Go.WideShapes Go.ChangeAt Go.RowKit

/-- is no list empty? -/
def fullB (zss : List (List Int)) : Bool := zss.all fun s => !decide (s.length = 0)
def totalB (xsss : List (List (List Int))) : Bool := xsss.all fullB
theorem fullB_anyAt (zss : List (List Int)) : anyAt (fun k => decide ((zss.getD k []).length = 0)) zss.length = !fullB zss := by
  rw [Bool.eq_iff_iff]
  rw [anyAt_true]
  simp only [fullB, Bool.not_eq_true', List.all_eq_false, Bool.not_eq_true]
  constructor
  · rintro ⟨k, hk, h⟩
    exact ⟨zss[k], List.getElem_mem hk, by simpa [List.getD_eq_getElem?_getD, hk] using h⟩
  · rintro ⟨z, hz, h⟩
    obtain ⟨k, hk, rfl⟩ := List.getElem_of_mem hz
    exact ⟨k, hk, by simpa [List.getD_eq_getElem?_getD, hk] using h⟩
theorem totalB_anyAt (xsss : List (List (List Int))) : anyAt (fun k => !fullB (xsss.getD k [])) xsss.length = !totalB xsss := by
  rw [Bool.eq_iff_iff]
  rw [anyAt_true]
  simp only [totalB, Bool.not_eq_true', List.all_eq_false, Bool.not_eq_true]
  constructor
  · rintro ⟨k, hk, h⟩
    exact ⟨xsss[k], List.getElem_mem hk, by simpa [List.getD_eq_getElem?_getD, hk] using h⟩
  · rintro ⟨z, hz, h⟩
    obtain ⟨k, hk, rfl⟩ := List.getElem_of_mem hz
    exact ⟨k, hk, by simpa [List.getD_eq_getElem?_getD, hk] using h⟩

theorem isTotalLit2_any (v : Value) (zs : List Int) (w : World) (h1 : Ints w v zs) :
    Calls Try.prog 77 #[v] w (RetB (.bool (decide (zs.length = 0))) w) := by
  obtain ⟨ao1, p1, o1, c1, H1⟩ := h1.open
  have hv := H1.val
  subst hv
  have hm := H1.len
  obtain ⟨n, hn⟩ : ∃ n, n = zs.length := ⟨_, rfl⟩
  rw [← hn] at hm ⊢
  clear H1 h1 hn
  go_enter Try.func77, Try.ntmps77
  go_wp2
  go_ret
  exact ⟨ret_bool (by rw [Bool.eq_iff_iff]; simp), Below.refl _ _⟩

theorem isTotalLit_any (v : Value) (zss : List (List Int)) (w : World) (h1 : Rows2 w v zss) :
    Calls Try.prog 76 #[v] w (RetB (.bool (!fullB zss)) w) := by
  have eg : ∀ args w, (callFunc 77 args).run Try.prog w = .ok (.enter 77 args) w := fun _ _ => by kernel_rfl
  have HC0 : Calls Try.prog 59 #[v, .func (.func 77) #[] #[]] w (RetB (.bool (!fullB zss)) w) := by
    obtain ⟨rs, hs, hn, hr⟩ := h1
    have C := containsFuncRows_any _ rs 77 #[] (fun k => decide ((zss.getD k []).length = 0)) w hs eg (fun k hk W2 hW2 => isTotalLit2_any _ _ W2 ((hr k (by omega)).kept hW2))
    rw [hn, fullB_anyAt] at C
    exact C
  have HC := Lib.hid HC0
  generalize fullB zss = q at HC ⊢
  clear h1 HC0 eg
  go_enter Try.func76, Try.ntmps76
  go_wp2_with fail
  refine HC.out.mono ?_
  rintro e w2 ⟨rfl, hb⟩
  go_wp2
  go_ret
  exact ⟨rfl, hb⟩

/-- what IsTotal answers -/
def totalV (st : Int) (xss : List (List (List Int))) : Value := if validC st xss = true then .tuple #[.bool (totalB xss), .int .i64 0] else .tuple #[.bool false, .int .i64 1]

theorem isTotal_any (st : Int) (v : Value) (xss : List (List (List Int))) (w : World) (h1 : Rows3 w v xss) :
    Calls Try.prog 26 #[.agg #[.int .i64 st, v]] w (RetB (totalV st xss) w) := by
  obtain ⟨ao, m, c, rfl, HM⟩ := h1.shape
  have b0 : Below w.heap.size w (w.alloc (.cells #[.int .i64 st, .slice ao m c] 36)) := below_alloc (Below.refl _ _) _
  have HV0 := fun W (hb : Below w.heap.size w W) => validChoice_any st _ xss W (h1.kept hb)
  have eg : ∀ args w, (callFunc 76 args).run Try.prog w = .ok (.enter 76 args) w := fun _ _ => by kernel_rfl
  have HF0 : ∀ W, Below w.heap.size w W → Calls Try.prog 72 #[.slice ao m c, .func (.func 76) #[] #[]] W (RetB (.bool (!totalB xss)) W) := by
    intro W hW
    obtain ⟨rs, hs, hn, hr⟩ := h1.kept hW
    have C := containsFuncCube_any _ rs 76 #[] (fun k => !fullB (xss.getD k [])) W hs eg (fun k hk W2 hW2 => isTotalLit_any _ _ W2 ((hr k (by omega)).kept hW2))
    rw [hn, totalB_anyAt] at C
    exact C
  have HF := Lib.hid HF0
  unfold totalV
  cases hA : validC st xss
  · rw [if_neg (by simp)]
    rw [hA] at HV0
    have HV := Lib.hid HV0
    clear HV0 hA HF0 HF eg h1
    go_enter Try.func26, Try.ntmps26
    go_wp2_with fail
    refine (HV.out _ b0).mono ?_
    rintro e w2 ⟨rfl, hb⟩
    go_wp2
    exact bodyPost_ret (v := .tuple #[.bool false, .int .i64 1]) (by simp [results, Try.results26, go_sem]) rfl ⟨rfl, below_trans b0 hb⟩
  · rw [if_pos rfl]
    rw [hA] at HV0
    have HV := Lib.hid HV0
    generalize totalB xss = q at HF ⊢
    clear HV0 hA HF0 eg h1
    go_enter Try.func26, Try.ntmps26
    go_wp2_with fail
    refine (HV.out _ b0).mono ?_
    rintro e w2 ⟨rfl, hb⟩
    obtain ⟨hc, hf⟩ := bcell hb
    have hz : w.heap.size < w2.heap.size := by have := hb.size; simp at this; omega
    have b2 := below_trans b0 hb
    go_wp2_with fail
    refine (HF.out _ b2).mono ?_
    rintro e w3 ⟨rfl, hb3⟩
    go_wp2
    exact bodyPost_ret (v := .tuple #[.bool q, .int .i64 0]) (by simp [results, Try.results26, go_sem]) rfl ⟨rfl, below_trans b2 hb3⟩

theorem fullB_take (xss : List (List Int)) (k : Nat) (h : k < xss.length) : fullB (xss.take (k + 1)) = (fullB (xss.take k) && !decide ((xss.getD k []).length = 0)) := by
  unfold fullB
  rw [List.take_succ_eq_append_getElem h, List.all_append]
  simp [List.getD_eq_getElem?_getD, h]
theorem totalB_take (xss : List (List (List Int))) (k : Nat) (h : k < xss.length) : totalB (xss.take (k + 1)) = (totalB (xss.take k) && fullB (xss.getD k [])) := by
  unfold totalB
  rw [List.take_succ_eq_append_getElem h, List.all_append]
  simp [List.getD_eq_getElem?_getD, h]
theorem totalB_no {xss : List (List (List Int))} {k j : Nat} (h : k < xss.length) (hj : j < (xss.getD k []).length) (h0 : ((xss.getD k []).getD j []).length = 0) : totalB xss = false := by
  have e := totalB_anyAt xss
  have : anyAt (fun k => !fullB (xss.getD k [])) xss.length = true := by
    rw [anyAt_true]
    refine ⟨k, h, ?_⟩
    rw [← fullB_anyAt, anyAt_true]
    exact ⟨j, hj, by simpa using h0⟩
  rw [this] at e
  simpa using e.symm

set_option maxHeartbeats 1000000 in
theorem specIsTotal_any (st : Int) (v : Value) (xss : List (List (List Int))) (w : World) (h1 : Rows3 w v xss) :
    Calls Try.prog 25 #[.agg #[.int .i64 st, v]] w (RetB (totalV st xss) w) := by
  obtain ⟨ao1, p1, o1, c1, H1⟩ := h1.open
  have hv := H1.val
  subst hv
  have hm := H1.len
  have b0 : Below w.heap.size w (w.alloc (.cells #[.int .i64 st, .slice ao1 xss.length c1] 36)) := below_alloc (Below.refl _ _) _
  have HC0 : ∀ W, W = w.alloc (.cells #[.int .i64 st, .slice ao1 xss.length c1] 36) → Calls Try.prog 70 #[.pointer (some ⟨w.heap.size, 0, none⟩)] W (RetQ (.bool (validC st xss)) W) := by
    rintro W rfl
    exact l04Choices_any _ _ st (.slice ao1 xss.length c1) xss _ (by go_simp) (by go_simp) (h1.kept b0)
  clear h1
  unfold totalV
  cases hA : validC st xss
  · rw [if_neg (by simp)]
    rw [hA] at HC0
    have HC := Lib.hid HC0
    clear HC0 hA
    go_enter Try.func25, Try.ntmps25
    go_wp2_with fail
    refine (HC.out _ rfl).mono ?_
    rintro e w2 ⟨rfl, hq⟩
    go_wp2
    exact bodyPost_ret (v := .tuple #[.bool false, .int .i64 1]) (by simp [results, Try.results25, go_sem]) rfl ⟨rfl, b0.trans (hq.below _)⟩
  · rw [if_pos rfl]
    rw [hA] at HC0
    have HC := Lib.hid HC0
    clear HC0 hA
    go_enter Try.func25, Try.ntmps25
    go_wp2_with fail
    refine (HC.out _ rfl).mono ?_
    rintro e w2 ⟨rfl, hq⟩
    have b2 : Below w.heap.size w w2 := b0.trans (hq.below _)
    have d1 : w2.cell? ⟨w.heap.size, 1, none⟩ = some (.slice ao1 xss.length c1) := hq.cell (by go_simp)
    clear hq
    go_wp2
    go_loop [4, 5] (fun i _ => ∃ k : Nat, k ≤ xss.length ∧ i = .int .i64 k ∧ Hid (totalB (xss.take k) = true)) (fun i _ => xss.length - (intOf i).toNat)
    case atStart => exact ⟨0, Nat.zero_le _, rfl, rfl⟩
    case round =>
      obtain ⟨k, hk, rfl, hall⟩ := hrel
      by_cases hlt : k < xss.length
      · have i1 := idx_of Try.underlying31 size1_rows (c := c1) H1.adr hlt .i64
        obtain ⟨r1, d2, hr1⟩ := H1.cell k hlt
        replace d2 := below_cell b2 d2
        replace hr1 := hr1.kept b2
        obtain ⟨ao2, p2, o2, c2, H2⟩ := hr1.open
        have hv2 := H2.val
        subst hv2
        have hm2 := H2.len
        have HT := Lib.hid (totalB_take xss k hlt)
        have HNO := Lib.hid (fun j => totalB_no (j := j) hlt)
        obtain ⟨zs, hzs⟩ : ∃ zs, zs = xss.getD k [] := ⟨_, rfl⟩
        rw [← hzs] at HT HNO d2 hr1 H2 hm2
        clear hzs
        go_wp2
        go_loop [5] (fun i => ∃ j : Nat, j ≤ zs.length ∧ i = .int .i64 j ∧ Hid (fullB (zs.take j) = true)) (fun i => zs.length - (intOf i).toNat)
        case atStart => exact ⟨0, Nat.zero_le _, rfl, rfl⟩
        case round =>
          obtain ⟨j, hj, rfl, hin⟩ := hrel
          by_cases hlt2 : j < zs.length
          · have i2 := idx_of Try.underlying22 size1_ints (c := c2) H2.adr hlt2 .i64
            obtain ⟨r3, d3, hr3⟩ := H2.cell j hlt2
            obtain ⟨ao3, p3, o3, c3, H3⟩ := hr3.open
            have hv3 := H3.val
            subst hv3
            have hm3 := H3.len
            have HT2 := Lib.hid (fullB_take zs j hlt2)
            have HNO2 := Lib.hid (HNO.out j hlt2)
            obtain ⟨n, hn⟩ : ∃ n, n = (zs.getD j []).length := ⟨_, rfl⟩
            rw [← hn] at d3 hm3 HT2 HNO2
            clear hr3 H3 hn
            by_cases hz : n = 0
            · subst hz
              have HF := Lib.hid (HNO2.out rfl)
              go_wp2
              rw [HF.out]
              exact bodyPost_ret (v := .tuple #[.bool false, .int .i64 0]) (by simp [results, Try.results25, go_sem]) rfl ⟨rfl, b2⟩
            · have hb : ((n : Int) == 0) = false := by simp; omega
              have hd : decide (n = 0) = false := decide_eq_false hz
              have HD := Lib.hid hd
              clear hd
              go_wp2
              go_round
              case rel => exact ⟨j + 1, by omega, by go_num, by unfold Hid; rw [HT2.out, hin.out, HD.out]; rfl⟩
              case measure => simp [intOf]; omega
          · have hin2 : fullB zs = true := by have := hin.out; rwa [List.take_of_length_le (by omega)] at this
            have HIN := Lib.hid hin2
            clear hin2
            go_wp2
            go_round
            case rel => exact ⟨k + 1, by omega, by go_num, by unfold Hid; rw [HT.out, hall.out, HIN.out]; rfl⟩
            case measure => simp [intOf]; omega
      · have hall2 : totalB xss = true := by have := hall.out; rwa [List.take_of_length_le (by omega)] at this
        have HA := Lib.hid hall2
        clear hall2
        go_wp2
        rw [HA.out]
        exact bodyPost_ret (v := .tuple #[.bool true, .int .i64 0]) (by simp [results, Try.results25, go_sem]) rfl ⟨rfl, b2⟩

end Go.Proofs.Ytfenkhhfiomfeaa
