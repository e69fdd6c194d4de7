/- ShortestReset, CanReset, IsFullyReached, of the reference and of the program. -/
import Derived.Test.YtlgnbbfhejjodaaTourG
namespace Go.Proofs.Ytlgnbbfhejjodaa
set_option linter.unusedVariables false
set_option linter.unusedSimpArgs false
open Go.ChangeShapes Go.WideShapes Go.ChangeAt Go.RowKit

/-- the tour from all states -/
def allTour (st : Int) (xss : List (List Int)) : Tour := tourOf xss (2 ^ st.toNat - 1)
def srZs (st : Int) (xss : List (List Int)) : List Int := if validB st xss = true then wordP smallB (allTour st xss) else []
def srCd (st : Int) (xss : List (List Int)) : Int := if validB st xss = true then codeP smallB (allTour st xss) else 1
theorem Good.full {st : Int} {n : Nat} {xss : List (List Int)} (h : Good st n xss) : 2 ^ n - 1 < 2 ^ n := by have := Nat.two_pow_pos n; omega
theorem Good.allTour {st : Int} {n : Nat} {xss : List (List Int)} (h : Good st n xss) : allTour st xss = tourOf xss (2 ^ n - 1) := by unfold Proofs.Ytlgnbbfhejjodaa.allTour; rw [h.st]; rfl
theorem Good.tour {st : Int} {n : Nat} {xss : List (List Int)} (h : Good st n xss) : GoodT n (tourOf xss (2 ^ n - 1)) := GoodT.outer h.rows h.len3 h.full 1024
theorem wordP_none {p : Nat → Bool} {T : Tour} (h : (firstT p T).isSome = false) : wordP p T = [] := by
  unfold wordP
  cases hf : firstT p T with
  | none => rfl
  | some x => rw [hf] at h; cases h
theorem codeP_if (p : Nat → Bool) (T : Tour) : codeP p T = if (firstT p T).isSome = true then 0 else 6 := rfl
theorem wordP_len {n : Nat} {p : Nat → Bool} {T : Tour} (h : GoodT n T) (hn : n ≤ 10) : (wordP p T).length ≤ 1024 := by
  unfold wordP
  cases hf : firstT p T with
  | none => simp
  | some x =>
    have := h.word x (List.mem_of_find?_eq_some hf)
    have := h.len10 hn
    simp
    omega

theorem srZs_len (st : Int) (xss : List (List Int)) : (srZs st xss).length ≤ 1024 := by
  unfold srZs
  split
  · rename_i hv
    obtain ⟨n, hg⟩ := good_of hv
    rw [hg.allTour]
    exact wordP_len hg.tour hg.hi
  · simp
theorem FirstPost.new {lo : Nat} {zs : List Int} {code : Int} {w0 w : World} {e : Ending} {w' : World} (h : FirstPost lo zs code w e w') (hl : w0.heap.size ≤ lo) (hb : Below w0.heap.size w0 w) : NewInts2 zs code w0 e w' := by
  obtain ⟨v, he, ho, hb2⟩ := h
  exact ⟨v, he, own_lo ho hl, below_trans hb hb2⟩

set_option maxRecDepth 100000 in
set_option maxHeartbeats 4000000 in
theorem specShortest_any (st : Int) (v : Value) (xss : List (List Int)) (w : World) (h1 : Rows2 w v xss) :
    Calls Try.prog 20 #[.agg #[.int .i64 st, v]] w (NewInts2 (srZs st xss) (srCd st xss) w) := by
  obtain ⟨ao, m, c, rfl, HM⟩ := h1.shape
  obtain ⟨W1, hW1⟩ : ∃ W1, W1 = w.alloc (.cells #[.int .i64 st, .slice ao m c] 28) := ⟨_, rfl⟩
  have bx : Below w.heap.size w W1 := by rw [hW1]; exact below_alloc (Below.refl _ _) _
  have p0 : W1.cell? ⟨w.heap.size, 0, none⟩ = some (.int .i64 st) := by rw [hW1]; go_simp
  have p1 : W1.cell? ⟨w.heap.size, 1, none⟩ = some (.slice ao m c) := by rw [hW1]; go_simp
  have HOK := Lib.hid (l01Ok_any w.heap.size 0 st _ xss W1 p0 p1 (h1.kept bx))
  cases hv : validB st xss
  · rw [show srZs st xss = [] by simp [srZs, hv], show srCd st xss = 1 by simp [srCd, hv]]
    rw [hv] at HOK
    subst hW1
    clear hv h1
    go_enter Try.func20, Try.ntmps20
    go_wp2_with fail
    refine HOK.out.mono ?_
    rintro e w2 ⟨rfl, hq⟩
    have hb := hq.below (w.alloc (.cells #[.int .i64 st, .slice ao m c] 28)).heap.size
    have HE := Lib.hid (own_empty w2 w.heap.size (by have := hb.size; simp at this; omega) 2)
    go_wp2
    go_ret2
    exact ⟨_, rfl, HE.out, below_trans bx (below_trans hb (below_alloc (Below.refl _ _) _))⟩
  · obtain ⟨n, hg⟩ := good_of hv
    rw [show srZs st xss = wordP smallB (tourOf xss (2 ^ n - 1)) by simp [srZs, hv, hg.allTour], show srCd st xss = codeP smallB (tourOf xss (2 ^ n - 1)) by simp [srCd, hv, hg.allTour]]
    rw [hv] at HOK
    obtain rfl := hg.st
    have HFU := Lib.hid (fun W (hW : Below W1.heap.size W1 W) => l02Full_any w.heap.size n W (below_cell hW p0) hg.hi)
    have HSH := Lib.hid (fun W (hW : Below W1.heap.size W1 W) => l02Shrink_any w.heap.size n _ xss n (2 ^ n - 1) W (below_cell hW p0) (below_cell hW p1) ((h1.kept bx).kept hW) hg hg.full)
    have hwn := fun h => wordP_none (p := smallB) (T := tourOf xss (2 ^ n - 1)) h
    rw [codeP_if]
    generalize wordP smallB (tourOf xss (2 ^ n - 1)) = zs at HSH hwn
    generalize (firstT smallB (tourOf xss (2 ^ n - 1))).isSome = ok at HSH hwn
    generalize 2 ^ n - 1 = full at HFU HSH
    have HTD := Lib.hid (fun (vz : Value) lo w => l02Told_any vz zs ok lo w hwn)
    generalize (if ok = true then (0 : Int) else 6) = cd at HTD ⊢
    have e1 : W1.heap.size = w.heap.size + 1 := by rw [hW1]; simp
    have E1 := Lib.hid e1
    subst hW1
    clear hv h1 hg hwn e1
    go_enter Try.func20, Try.ntmps20
    go_wp2_with fail
    refine HOK.out.mono ?_
    rintro e w2 ⟨rfl, hq⟩
    have hb := hq.below (w.alloc (.cells #[.int .i64 n, .slice ao m c] 28)).heap.size
    go_wp2_with fail
    refine (HFU.out _ hb).mono ?_
    rintro e w3 ⟨rfl, rfl⟩
    go_wp2_with fail
    refine (HSH.out _ hb).mono ?_
    rintro e w4 ⟨vz, rfl, ho, hb4⟩
    have hsz := hb.size
    have hsz4 := hb4.size
    have HTO := Lib.hid (HTD.out vz w.heap.size w4 (own_lo ho (by rw [E1.out] at hsz; omega)) (by rw [E1.out] at hsz; omega))
    clear ho
    go_wp2_with fail
    refine HTO.out.mono ?_
    rintro e w5 ⟨vt, rfl, hot, hb5⟩
    have HOT := Lib.hid hot
    have hbb := below_trans bx (below_trans hb (below_trans hb4 hb5))
    clear hot
    go_wp2
    go_ret2
    exact ⟨_, rfl, HOT.out, hbb⟩

theorem isSmall_ret (T : Tour) (n : Nat) (hT : GoodT n T) (hn : n ≤ 10) (w : World) : ∀ k, k < T.length → ∀ W, Below w.heap.size w W → Calls Try.prog 70 (#[.int .u64 ((T.at k).1 : Int)] ++ #[]) W (RetB (.bool (smallB (T.at k).1)) W) := fun k hk W _ =>
  (isSmall_any _ W (hT.lt10 hn hk)).mono fun _ _ ⟨he, hw⟩ => ⟨he, hw ▸ Below.refl _ _⟩

set_option maxRecDepth 100000 in
set_option maxHeartbeats 4000000 in
theorem implShortest_any (st : Int) (v : Value) (xss : List (List Int)) (w : World) (h1 : Rows2 w v xss) :
    Calls Try.prog 21 #[.agg #[.int .i64 st, v]] w (NewInts2 (srZs st xss) (srCd st xss) w) := by
  obtain ⟨ao, m, c, rfl, HM⟩ := h1.shape
  obtain ⟨W1, hW1⟩ : ∃ W1, W1 = w.alloc (.cells #[.int .i64 st, .slice ao m c] 28) := ⟨_, rfl⟩
  have bx : Below w.heap.size w W1 := by rw [hW1]; exact below_alloc (Below.refl _ _) _
  have p0 : W1.cell? ⟨w.heap.size, 0, none⟩ = some (.int .i64 st) := by rw [hW1]; go_simp
  have p1 : W1.cell? ⟨w.heap.size, 1, none⟩ = some (.slice ao m c) := by rw [hW1]; go_simp
  have HOK := Lib.hid (validAuto_any st _ xss W1 (h1.kept bx))
  cases hv : validB st xss
  · rw [show srZs st xss = [] by simp [srZs, hv], show srCd st xss = 1 by simp [srCd, hv]]
    rw [hv] at HOK
    subst hW1
    clear hv h1
    go_enter Try.func21, Try.ntmps21
    go_wp2_with fail
    refine HOK.out.mono ?_
    rintro e w2 ⟨rfl, hb⟩
    go_wp2
    go_ret2
    exact ⟨_, rfl, World.ownsRow_nil _ _ _ _, below_trans bx hb⟩
  · obtain ⟨n, hg⟩ := good_of hv
    rw [show srZs st xss = wordP smallB (tourOf xss (2 ^ n - 1)) by simp [srZs, hv, hg.allTour], show srCd st xss = codeP smallB (tourOf xss (2 ^ n - 1)) by simp [srCd, hv, hg.allTour]]
    rw [hv] at HOK
    have hn10 := hg.hi
    have HAL := Lib.hid (fun W => autoAll_any st n m c ao W hg.st hn10)
    have HFO := Lib.hid (fun (u : Value) W (hi : Ints W u ((List.range n).map fun (s : Nat) => (s : Int))) => flockOf_any u _ W hi (range_in hn10))
    rw [full_bits] at HFO
    have HTR := Lib.hid (fun W (hW : Below w.heap.size w W) => tour_any st _ xss n (2 ^ n - 1) W (h1.kept hW) hg hg.full)
    have hT := hg.tour
    generalize tourOf xss (2 ^ n - 1) = T at HTR hT
    generalize 2 ^ n - 1 = full at HFO HTR
    have HFI := Lib.hid (fun W lo mb lv (hl : W.ownsRow lo 83 1 lv T.sets.length (flVals T.sets)) (hw : WordMap W lo mb T) => first_any T n lo mb lv 70 #[] smallB W hT hn10 hl hw (fun _ _ => by kernel_rfl) (isSmall_ret T n hT hn10 W))
    have e1 : W1.heap.size = w.heap.size + 1 := by rw [hW1]; simp
    have E1 := Lib.hid e1
    subst hW1
    clear hv h1 hg hT e1
    go_enter Try.func21, Try.ntmps21
    go_wp2_with fail
    refine HOK.out.mono ?_
    rintro e w2 ⟨rfl, hb⟩
    replace p0 := below_cell hb p0
    replace p1 := below_cell hb p1
    have bw2 := below_trans bx hb
    have hz2 := block_lt_of_cell p0
    go_wp2
    go_region_held3 (fun w' => Below w2.heap.size w2 w' ∧ ∀ b o, b < w2.heap.size → w'.cell? ⟨b, o, none⟩ = w2.cell? ⟨b, o, none⟩) (first | exact held_start | assumption | exact held_next (by assumption) (by assumption))
      (first
        | (go_simp; go_at_call 68; refine (HAL.out _).mono ?_; rintro e w3 ⟨v3, rfl, ho3, hb3⟩; obtain ⟨a3, m3, c3, rfl, HM3⟩ := own_shape ho3)
        | (go_simp; go_at_call 67; refine (HFO.out _ _ (ints_of_own ho3)).mono ?_; rintro e w4 ⟨rfl, rfl⟩)
        | (go_simp; go_at_call 66; refine (HTR.out _ (below_trans bw2 (And.left (by assumption)))).mono ?_; rintro e w5 ⟨lv, mb, rfl, hol, hwm, hb5⟩; obtain ⟨a5, m5, c5, rfl, HM5⟩ := own_shape hol)
        | (go_simp; go_at_call 69; refine (HFI.out _ _ _ _ hol hwm).mono ?_; rintro e w6 ⟨v6, rfl, ho6, hb6⟩; obtain ⟨a6, m6, c6, rfl, HM6⟩ := own_shape ho6))
    rename Below w2.heap.size w2 w6 ∧ _ => hS
    obtain ⟨hw6, hcs⟩ := hS
    clear hcs
    go_wp2
    go_ret2
    exact ⟨_, rfl, own_lo ho6 (by have := bw2.size; have hq3 := hb3.size; rw [show w2.drew.heap.size = w2.heap.size from rfl] at hq3; omega), below_trans bw2 hw6⟩

end Go.Proofs.Ytlgnbbfhejjodaa
