/- StablePairs, of the reference and of the program: the joins. -/
import Derived.Test.YtbcfnibpdfonkaaStablePairs
namespace Go.Proofs.Ytbcfnibpdfonkaa
set_option linter.unusedVariables false
set_option linter.unusedSimpArgs false
open Go.ChangeShapes Go.WideShapes Go.ChangeAt Go.RowKit

def spZs (st : Int) (xss : List (List Int)) : List (List Int) := if validB st xss = true then pairsTo (stB xss) st.toNat st.toNat else []
theorem spZs_bulk (st : Int) (xss : List (List Int)) : bulk2 (spZs st xss) ≤ 400 := by
  unfold spZs
  split
  · rename_i hv
    obtain ⟨n, hg⟩ := good_of hv
    have hn := hg.hi
    have e : st.toNat = n := by have := hg.st; omega
    rw [e, bulk_two _ (pairsTo_in _ _ _)]
    have h1 := pairsTo_len (stB xss) n n
    have h3 : n * n ≤ 10 * 10 := Nat.mul_le_mul hn hn
    omega
  · simp [bulk2]

set_option maxRecDepth 100000 in
set_option maxHeartbeats 4000000 in
theorem stable_any (st : Int) (v : Value) (xss : List (List Int)) (n : Nat) (w : World) (h1 : Rows2 w v xss) (hg : Good st n xss) :
    Calls Try.prog 101 #[.agg #[.int .i64 st, v]] w (NewRows (pairsTo (stB xss) n n) w) := by
  have hn10 := hg.hi
  have hn1 := hg.lo
  obtain ⟨ao, m, c, rfl, HM⟩ := h1.shape
  obtain rfl := hg.st
  have HMS := Lib.hid (fun W (hW : Below w.heap.size w W) => merges_any n _ xss n W (h1.kept hW) hg)
  obtain ⟨W1, hW1⟩ : ∃ W1, W1 = w.alloc (.cells #[.int .i64 n, .slice ao m c] 26) := ⟨_, rfl⟩
  have bx : Below w.heap.size w W1 := by rw [hW1]; exact below_alloc (Below.refl _ _) _
  have p0 : W1.cell? ⟨w.heap.size, 0, none⟩ = some (.int .i64 n) := by rw [hW1]; go_simp
  have p1 : W1.cell? ⟨w.heap.size, 1, none⟩ = some (.slice ao m c) := by rw [hW1]; go_simp
  have HST := Lib.hid (fun (s t bm tg tc : Nat) (X : World) (hX : Below w.heap.size w X) (ha0 : X.cell? ⟨w.heap.size, 0, none⟩ = some (.int .i64 n)) (ha1 : X.cell? ⟨w.heap.size, 1, none⟩ = some (.slice ao m c)) (hm : X.cell? ⟨bm, 0, none⟩ = some (.slice (some ⟨tg, 0, none⟩) n tc)) (hT : TabOf X tg n (mgW xss) (mgOk xss)) (hs : s < n) (ht : t < n) =>
    stableLit_any n _ xss n s t w.heap.size bm tg tc X (h1.kept hX) hg ha0 ha1 hm hT hs ht)
  generalize stB xss = P at HST ⊢
  generalize mgW xss = zs at HMS HST
  generalize mgOk xss = ok at HMS HST
  subst hW1
  clear h1 hg
  go_enter Try.func101, Try.ntmps101
  go_wp2_with fail
  refine (HMS.out _ bx).mono ?_
  rintro e w5 ⟨v5, Rs, rfl, hRs, hTab, hb5⟩
  obtain ⟨tg, tc, rfl, _⟩ := own_some hTab.outer (by omega)
  have hTO := hTab.tabOf hn1 hRs
  rw [hRs]
  replace p0 := below_cell hb5 p0
  replace p1 := below_cell hb5 p1
  have hz0 := block_lt_of_cell p0
  have bw5 := below_trans bx hb5
  have HPR := Lib.hid (fun W (hW : Below w5.heap.size w5 W) (hm : W.cell? ⟨w5.heap.size, 0, none⟩ = some (.slice (some ⟨tg, 0, none⟩) n tc)) =>
    pairs_any n m c ao 149 #[.pointer (some ⟨w.heap.size, 0, none⟩), .pointer (some ⟨w5.heap.size, 0, none⟩)] P W hn10 (fun _ _ => by kernel_rfl)
      (fun s t hs ht X hX => HST.out s t w5.heap.size tg tc X (below_trans (below_trans bw5 hW) hX) (below_cell hX (below_cell hW p0)) (below_cell hX (below_cell hW p1)) (below_cell hX hm) ((hTO.below hW).below hX) hs ht))
  clear hTab hRs HMS HST hTO
  go_wp2_with fail
  refine (HPR.out _ (below_alloc (Below.refl _ _) _) (by go_simp)).mono ?_
  rintro e w8 ⟨v8, rs8, rfl, ho8, hb8⟩
  obtain ⟨a8, m8, c8, rfl, HM8⟩ := own_shape ho8.outer
  have HO8 := Lib.hid ho8
  have hbw := below_trans bw5 (below_trans (below_alloc (Below.refl _ _) _) hb8)
  have hlo := bw5.size
  clear ho8
  go_wp2
  go_ret
  exact ⟨_, rs8, rfl, HO8.out.mono (by simp; omega), hbw⟩

set_option maxRecDepth 100000 in
set_option maxHeartbeats 4000000 in
theorem implStable_any (st : Int) (v : Value) (xss : List (List Int)) (w : World) (h1 : Rows2 w v xss) :
    Calls Try.prog 44 #[.agg #[.int .i64 st, v]] w (NewRows2 (spZs st xss) (rkCd st xss) w) := by
  obtain ⟨ao, m, c, rfl, HM⟩ := h1.shape
  obtain ⟨W1, hW1⟩ : ∃ W1, W1 = w.alloc (.cells #[.int .i64 st, .slice ao m c] 26) := ⟨_, rfl⟩
  have bx : Below w.heap.size w W1 := by rw [hW1]; exact below_alloc (Below.refl _ _) _
  have p0 : W1.cell? ⟨w.heap.size, 0, none⟩ = some (.int .i64 st) := by rw [hW1]; go_simp
  have p1 : W1.cell? ⟨w.heap.size, 1, none⟩ = some (.slice ao m c) := by rw [hW1]; go_simp
  have HOK := Lib.hid (validAuto_any st _ xss W1 (h1.kept bx))
  cases hv : validB st xss
  · rw [show spZs st xss = [] by simp [spZs, hv], show rkCd st xss = 1 by simp [rkCd, hv]]
    rw [hv] at HOK
    subst hW1
    clear hv h1
    go_enter Try.func44, Try.ntmps44
    go_wp2_with fail
    refine HOK.out.mono ?_
    rintro e w2 ⟨rfl, hb⟩
    go_wp2
    go_ret2
    exact ⟨_, [], rfl, ownRows_nil _ _, below_trans bx hb⟩
  · obtain ⟨n, hg⟩ := good_of hv
    rw [show spZs st xss = pairsTo (stB xss) n n by unfold spZs; rw [if_pos hv, show st.toNat = n by have := hg.st; omega], show rkCd st xss = 0 by simp [rkCd, hv]]
    rw [hv] at HOK
    have HMS := Lib.hid (fun W (hW : Below w.heap.size w W) => stable_any st _ xss n W (h1.kept hW) hg)
    subst hW1
    clear hv h1 hg
    go_enter Try.func44, Try.ntmps44
    go_wp2_with fail
    refine HOK.out.mono ?_
    rintro e w2 ⟨rfl, hb⟩
    replace p0 := below_cell hb p0
    replace p1 := below_cell hb p1
    have bw2 := below_trans bx hb
    have hz2 := block_lt_of_cell p0
    go_wp2_with fail
    refine (HMS.out _ bw2).mono ?_
    rintro e w4 ⟨v4, rs, rfl, ho, hb4⟩
    obtain ⟨a4, m4, c4, rfl, HM4⟩ := own_shape ho.outer
    have HO := Lib.hid ho
    have hbb := below_trans bw2 hb4
    have hlo := bw2.size
    clear ho
    go_wp2
    go_ret2
    exact ⟨_, rs, rfl, HO.out.mono hlo, hbb⟩

/-- the reads of a table of numbers -/
def TabI (w : World) (tg n : Nat) (L : Nat → Nat → Int) : Prop :=
  ∀ s, s < n → ∃ (rg rc : Nat), w.cell? ⟨tg, s, none⟩ = some (.slice (some ⟨rg, 0, none⟩) n rc) ∧ ∀ t, t < n → w.cell? ⟨rg, t, none⟩ = some (.int .i64 (L s t))
theorem TabI.below {w w' : World} {tg n : Nat} {L : Nat → Nat → Int} (h : TabI w tg n L) (hb : Below w.heap.size w w') : TabI w' tg n L := by
  intro s hs
  obtain ⟨rg, rc, h1, h2⟩ := h s hs
  exact ⟨rg, rc, below_cell hb h1, fun t ht => below_cell hb (h2 t ht)⟩
theorem tabI_of {w : World} {lo g c n : Nat} {rs : List Value} {xss : List (List Int)} (h : OwnRows w lo (.slice (some ⟨g, 0, none⟩) n c) rs (ptTo xss n n)) (hn : 0 < n) : TabI w g n (mgL xss) := by
  intro s hs
  have hr := h.row s (by rw [ptTo_len]; exact hs)
  have e1 : (ptTo xss n n).getD s [] = ptRow xss s n := by unfold ptTo; simp [List.getD_eq_getElem?_getD, hs]
  rw [e1, ptRow_len] at hr
  have ho := h.outer
  rw [ptTo_len] at ho
  have hl := h.len
  rw [ptTo_len] at hl
  obtain ⟨rg, rc, hv, _⟩ := own_some hr hn
  refine ⟨rg, rc, ?_, fun t ht => ?_⟩
  · rw [ho.cellAt s (by omega), get_getD _ (by omega), hv]
  · rw [hv] at hr
    rw [hr.cellAt t (by omega)]
    unfold ptRow
    simp [ht]

set_option maxRecDepth 100000 in
set_option maxHeartbeats 4000000 in
theorem l02Steady_any (b : Nat) (st : Int) (v : Value) (xss : List (List Int)) (n s t tg tc : Nat) (w : World) (d0 : w.cell? ⟨b, 0, none⟩ = some (.int .i64 st)) (d1 : w.cell? ⟨b, 1, none⟩ = some v) (h1 : Rows2 w v xss) (hg : Good st n xss) (hT : TabI w tg n (mgL xss)) (hs : s < n) (ht : t < n) :
    Calls Try.prog 148 #[.pointer (some ⟨b, 0, none⟩), .slice (some ⟨tg, 0, none⟩) n tc, .int .i64 s, .int .i64 t] w (RetB (.bool (stB xss s t)) w) := by
  have hn10 := hg.hi
  have hpw := pair_w64 (s := s) (t := t) (by omega) (by omega)
  have HF := Lib.hid (l02From_any b st v xss n (2 ^ s ||| 2 ^ t) w d0 d1 h1 hg (pair_lt hs ht))
  have hGT := mg_tour hg hs ht
  have hp := outerT_pos xss (2 ^ s ||| 2 ^ t) 1024
  have HST : Hid (stB xss s t = !(anyAt (fun k => badB (mgOk xss) ((tourOf xss (2 ^ s ||| 2 ^ t)).at k).1) (tourOf xss (2 ^ s ||| 2 ^ t)).length)) := rfl
  change 0 < (tourOf xss (2 ^ s ||| 2 ^ t)).length at hp
  change GoodT n (tourOf xss (2 ^ s ||| 2 ^ t)) at hGT
  generalize tourOf xss (2 ^ s ||| 2 ^ t) = T at HF hGT hp HST
  have hlen := hGT.len10 hn10
  have HSET := Lib.hid (fun k (hk : k < T.length) W => l02Set_any (T.at k).1 W (hGT.lt10 hn10 hk))
  have HSL := Lib.hid (fun k (hk : k < T.length) => set_lt (hGT.lt _ (Tour.at_mem hk)) hn10)
  have HML := Lib.hid (fun x y => show mgL xss x y = if mgOk xss x y = true then ((mgW xss x y).length : Int) else -1 from rfl)
  have HTB := Lib.hid hT
  generalize stB xss s t = out at HST ⊢
  generalize mgL xss = L at HTB HML
  generalize mgOk xss = ok at HML HST
  generalize mgW xss = zs at HML
  have hs10 : s < 10 := by omega
  have ht10 : t < 10 := by omega
  clear d0 d1 h1 hg hT hGT hs ht
  generalize 2 ^ s ||| 2 ^ t = ff at hpw HF
  go_enter Try.func148, Try.ntmps148
  go_wp2_with fail
  refine HF.out.mono ?_
  rintro e w2 ⟨tb, s2, bv, l, bs, ls, rfl, hw, hb⟩
  obtain ⟨sg, sc, rfl, hsc⟩ := own_some hw.hs hp
  have t0 : w2.cell? ⟨tb, 0, none⟩ = some (.slice (some ⟨sg, 0, none⟩) T.length sc) := by have := hw.st.cellAt 0 (by omega); simpa using this
  have CS := Lib.hid (fun k (hk : k < T.length) => walk_set hw hk)
  clear hw
  go_wp2
  go_loopw [10] (fun i wr => ∃ k : Nat, k ≤ T.length ∧ i = .int .i64 k ∧ Hid (∀ j, j < k → badB ok (T.at j).1 = false) ∧ Below w2.heap.size w2 wr) (fun i _ => T.length - (intOf i).toNat)
  case atStart => exact ⟨0, Nat.zero_le _, rfl, fun j hj => absurd hj (by omega), Below.refl _ _⟩
  case round =>
    obtain ⟨k, hk, rfl, hno, hbr⟩ := hrel
    have t1 := below_cell hbr t0
    by_cases hlt : k < T.length
    · have i1 := idx_of Try.underlying89 size1_i (ao := some ⟨sg, 0, none⟩) (b := sg) (o := 0) (n := T.length) (c := sc) (fun _ => rfl) hlt .i64
      rw [Nat.zero_add] at i1
      have d3 := below_cell hbr (CS.out k hlt)
      have HSK := Lib.hid (HSET.out k hlt)
      have hsl := HSL.out k hlt
      have HBD : Hid (badB ok (T.at k).1 = (decide ((setTo (T.at k).1 10).length = 2) && !(ok ((setTo (T.at k).1 10).getD 0 0) ((setTo (T.at k).1 10).getD 1 0)))) := rfl
      generalize setTo (T.at k).1 10 = S at HSK hsl HBD
      obtain ⟨fk, hfk⟩ : ∃ fk, fk = (T.at k).1 := ⟨_, rfl⟩
      rw [← hfk] at d3 HSK HBD
      have HFK := Lib.hid hfk
      clear hfk
      have HNX : Hid (badB ok fk = false → ∀ j, j < k + 1 → badB ok (T.at j).1 = false) := fun hq j hj => by
        rcases Nat.lt_or_ge j k with h | h
        · exact hno.out j h
        · obtain rfl : j = k := by omega
          rw [← HFK.out]; exact hq
      by_cases h2 : S.length = 2
      · obtain ⟨x, y, rfl⟩ := two_of h2
        have hx := hsl x (by simp)
        have hy := hsl y (by simp)
        have hBD := HBD.out
        rw [show (decide (([x, y] : List Nat).length = 2) && !(ok (([x, y] : List Nat).getD 0 0) (([x, y] : List Nat).getD 1 0))) = !(ok x y) from by simp] at hBD
        have hml := HML.out x y
        obtain ⟨rg, rc, e0, hrow⟩ := HTB.out x hx
        have e1 := hrow y hy
        generalize L x y = z at e1 hml
        generalize zs x y = zz at hml
        have i3 := idx_of Try.underlying22 size1_ints (ao := some ⟨tg, 0, none⟩) (b := tg) (o := 0) (n := n) (c := tc) (fun _ => rfl) hx .i64
        have i4 := idx_of Try.underlying38 size1_int (ao := some ⟨rg, 0, none⟩) (b := rg) (o := 0) (n := n) (c := rc) (fun _ => rfl) hy .i64
        rw [Nat.zero_add] at i3 i4
        replace e0 := below_cell hbr (below_cell hb e0)
        replace e1 := below_cell hbr (below_cell hb e1)
        clear h2 hsl hrow HBD
        cases hok : ok x y
        · rw [hok] at hBD hml
          obtain rfl : z = -1 := hml
          have HRES : Hid (out = false) := by
            unfold Hid
            rw [HST.out]
            have : anyAt (fun k => badB ok (T.at k).1) T.length = true := anyAt_true.2 ⟨k, hlt, by show badB ok (T.at k).1 = true; rw [← HFK.out, hBD]; rfl⟩
            rw [this]; rfl
          obtain rfl := HRES.out
          clear hok hBD
          go_wp2_with fail
          refine (HSK.out _).mono ?_
          rintro e w6 ⟨v6, rfl, ho6, hb6⟩
          obtain ⟨g2, c2, rfl, _⟩ := own_some ho6 (by simp)
          have s0 : w6.cell? ⟨g2, 0, none⟩ = some (.int .i64 x) := by have := ho6.cellAt 0 (by simp); simpa using this
          have s1 : w6.cell? ⟨g2, 1, none⟩ = some (.int .i64 y) := by have := ho6.cellAt 1 (by simp); simpa using this
          have i5 := idx_of Try.underlying38 size1_int (ao := some ⟨g2, 0, none⟩) (b := g2) (o := 0) (n := 2) (c := c2) (fun _ => rfl) (k := 0) (by omega) .i64
          have i6 := idx_of Try.underlying38 size1_int (ao := some ⟨g2, 0, none⟩) (b := g2) (o := 0) (n := 2) (c := c2) (fun _ => rfl) (k := 1) (by omega) .i64
          replace e0 := below_cell hb6 e0
          replace e1 := below_cell hb6 e1
          have hbw := below_trans hb (below_trans hbr hb6)
          clear ho6
          go_wp2
          go_quiet (fail)
          go_wp2
          go_ret
          exact ⟨rfl, below_drewN' hbw _⟩
        · rw [hok] at hBD hml
          obtain rfl : z = (zz.length : Int) := hml
          have HQ := Lib.hid (HNX.out hBD)
          clear hok hBD
          go_wp2_with fail
          refine (HSK.out _).mono ?_
          rintro e w6 ⟨v6, rfl, ho6, hb6⟩
          obtain ⟨g2, c2, rfl, _⟩ := own_some ho6 (by simp)
          have s0 : w6.cell? ⟨g2, 0, none⟩ = some (.int .i64 x) := by have := ho6.cellAt 0 (by simp); simpa using this
          have s1 : w6.cell? ⟨g2, 1, none⟩ = some (.int .i64 y) := by have := ho6.cellAt 1 (by simp); simpa using this
          have i5 := idx_of Try.underlying38 size1_int (ao := some ⟨g2, 0, none⟩) (b := g2) (o := 0) (n := 2) (c := c2) (fun _ => rfl) (k := 0) (by omega) .i64
          have i6 := idx_of Try.underlying38 size1_int (ao := some ⟨g2, 0, none⟩) (b := g2) (o := 0) (n := 2) (c := c2) (fun _ => rfl) (k := 1) (by omega) .i64
          have hnn : decide ((zz.length : Int) < 0) = false := decide_eq_false (by omega)
          replace e0 := below_cell hb6 e0
          replace e1 := below_cell hb6 e1
          have hbw := below_trans hbr hb6
          clear ho6
          go_wp2
          go_quiet (fail)
          go_wp2
          go_roundw
          case rel => exact ⟨k + 1, by omega, by go_num, HQ.out, below_drewN' hbw _⟩
          case measure => simp [intOf]; omega
      · have hne : ((S.length : Int) == 2) = false := by simp; omega
        have hBD := HBD.out
        rw [show decide (S.length = 2) = false from decide_eq_false h2, Bool.false_and] at hBD
        have HQ := Lib.hid (HNX.out hBD)
        clear h2 hBD hsl HBD
        go_wp2_with fail
        refine (HSK.out _).mono ?_
        rintro e w6 ⟨v6, rfl, ho6, hb6⟩
        obtain ⟨a2, m2, c2, rfl, HM2⟩ := own_shape ho6
        obtain rfl : m2 = S.length := by have := HM2.out; simpa using this
        have hbw := below_trans hbr hb6
        clear ho6 HM2
        go_wp2
        go_quiet (fail)
        go_wp2
        go_roundw
        case rel => exact ⟨k + 1, by omega, by go_num, HQ.out, below_drewN' hbw _⟩
        case measure => simp [intOf]; omega
    · have HRES : Hid (out = true) := by
        unfold Hid
        rw [HST.out]
        have : anyAt (fun k => badB ok (T.at k).1) T.length = false := anyAt_false.2 fun j hj => hno.out j (by omega)
        rw [this]; rfl
      obtain rfl := HRES.out
      have hbw := below_trans hb hbr
      go_wp2
      go_ret
      exact ⟨rfl, hbw⟩

set_option maxRecDepth 100000 in
set_option maxHeartbeats 4000000 in
theorem l02Stable_any (b : Nat) (v : Value) (xss : List (List Int)) (n : Nat) (w : World) (d0 : w.cell? ⟨b, 0, none⟩ = some (.int .i64 n)) (d1 : w.cell? ⟨b, 1, none⟩ = some v) (h1 : Rows2 w v xss) (hg : Good n n xss) :
    Calls Try.prog 100 #[.pointer (some ⟨b, 0, none⟩)] w (NewRows (pairsTo (stB xss) n n) w) := by
  have hn10 := hg.hi
  have hn1 := hg.lo
  have HTB := Lib.hid (l02Table_any b v xss n w d0 d1 h1 hg)
  have HP := Lib.hid (fun (s t tg tc : Nat) (hs : s < n) (ht : t < n) W (hW : Below w.heap.size w W) (hT : TabI W tg n (mgL xss)) => l02Steady_any b n v xss n s t tg tc W (below_cell hW d0) (below_cell hW d1) (h1.kept hW) hg hT hs ht)
  generalize stB xss = P at HP ⊢
  clear h1 hg
  go_enter Try.func100, Try.ntmps100
  go_wp2_with fail
  refine HTB.out.mono ?_
  rintro e w2 ⟨v2, rs0, rfl, ho2, hb2⟩
  have hol := ho2.outer
  rw [ptTo_len] at hol
  obtain ⟨tg, tc, rfl, _⟩ := own_some hol hn1
  have HTI := Lib.hid (tabI_of ho2 hn1)
  have HE := Lib.hid (ownRows_empty w2 w2.heap.size (Nat.le_refl _))
  have hbe : Below w2.heap.size w2 (w2.alloc (.cells #[] 38)) := below_alloc (Below.refl _ _) _
  have p0 := below_cell hb2 d0
  clear ho2 hol HTB
  go_wp2
  go_loopw [4, 5] (fun u i wr => ∃ s : Nat, s ≤ n ∧ i = .int .i64 s ∧ Hid (∃ rs : List Value, OwnRows wr w2.heap.size u rs (pairsTo P n s)) ∧ Below w2.heap.size w2 wr) (fun _ i _ => n - (intOf i).toNat)
  case atStart => exact ⟨0, Nat.zero_le _, rfl, ⟨[], by simpa [pairsTo] using HE.out⟩, hbe⟩
  case round =>
    obtain ⟨s, hs, rfl, HT, hb⟩ := hrel
    have q0 := below_cell hb p0
    obtain ⟨rs, hT⟩ := HT.out
    obtain ⟨au, mu, cu, rfl, HMu⟩ := own_shape hT.outer
    have HT2 : Hid (∃ rs : List Value, OwnRows wr w2.heap.size (.slice au mu cu) rs (pairsUp P n s 0)) := ⟨rs, by rw [pairsUp_zero]; exact hT⟩
    have HT3 := Lib.hid hT
    clear HT hT
    by_cases hlt : s < n
    · obtain ⟨wo, rfl⟩ : ∃ wo : World, wo = wr := ⟨_, rfl⟩
      have hlow := hb.size
      have hz0 := block_lt_of_cell q0
      have HP2 := Lib.hid (fun t (ht : t < n) W hW hT => HP.out s t tg tc hlt ht W hW hT)
      go_wp2
      go_loopw [4, 6] (fun u i wr => ∃ k : Nat, s + 1 + k ≤ n ∧ i = .int .i64 ((s + 1 + k : Nat) : Int) ∧ Hid (∃ rs : List Value, OwnRows wr w2.heap.size u rs (pairsUp P n s k)) ∧ Below w2.heap.size w2 wr) (fun _ i _ => n - (intOf i).toNat)
      case atStart => exact ⟨0, by omega, by go_num, HT2.out, hb⟩
      case round =>
        obtain ⟨k, hk, rfl, HR, hb3⟩ := hrel
        have r0 := below_cell hb3 p0
        have hbx : Below w.heap.size w wr := below_trans hb2 hb3
        obtain ⟨rs2, hR⟩ := HR.out
        obtain ⟨ar, mr, cr, rfl, HMr⟩ := own_shape hR.outer
        have HR2 := Lib.hid hR
        clear HR hR
        obtain ⟨t, ht⟩ : ∃ t, t = s + 1 + k := ⟨_, rfl⟩
        rw [← ht] at hk ⊢
        have HTE := Lib.hid ht
        have ht1 : t ≤ s + 1 + k := by omega
        have ht2 : s + 1 + k ≤ t := by omega
        clear ht
        by_cases hlt2 : t < n
        · have HC := Lib.hid (HP2.out t hlt2 wr hbx (HTI.out.below hb3))
          cases hP : P s t
          · rw [hP] at HC
            have HN := Lib.hid (pairsUp_no (P := P) (n := n) (s := s) (m := k) (by rw [← HTE.out]; exact hP))
            clear hP
            go_wp2_with fail
            refine HC.out.mono ?_
            rintro e w4 ⟨rfl, hb4⟩
            have HR4 := Lib.hid (HR2.out.below hb4)
            have hb5 := below_trans hb3 hb4
            clear HC
            go_wp2
            go_roundw
            case rel => exact ⟨k + 1, by omega, by rw [HTE.out]; go_num, ⟨_, by rw [← HN.out]; exact HR4.out⟩, hb5⟩
            case measure => simp [intOf]; omega
          · rw [hP] at HC
            have HN := Lib.hid (pairsUp_yes (P := P) (n := n) (s := s) (m := k) (by rw [← HTE.out]; exact hP))
            have hpl := pairsUp_len (P := P) (n := n) (s := s) (m := k) hn10 hs (by omega)
            clear hP
            go_wp2_with fail
            refine HC.out.mono ?_
            rintro e w4 ⟨rfl, hb4⟩
            have hlw4 := hb3.size
            have hb5 := below_trans hb3 hb4
            have hR4 := HR2.out.below hb4
            have hap := hR4.apart_new (w := w4.alloc (.cells #[.int .i64 s, .int .i64 t] 2)) (World.ownsRow_lit (base := w4.heap.size) (size := 1) (e := 2) w4 #[.int .i64 s, .int .i64 t] 2 (Nat.le_refl _) (by unfold maxLen; omega) (by simp))
            have HLIT := Lib.hid (World.ownsRow_lit (base := w4.heap.size) (size := 1) (e := 2) w4 #[.int .i64 s, .int .i64 t] 2 (Nat.le_refl _) (by unfold maxLen; omega) (by simp))
            have HR4 := Lib.hid (hR4.alloc (.cells #[.int .i64 s, .int .i64 t] 2))
            have HAP := Lib.hid hap
            have hlw5 : w2.heap.size ≤ w4.heap.size := Nat.le_trans hlw4 hb4.size
            have hb6 := hb5.alloc (show w2.heap.size ≤ w4.heap.size from hlw5) (.cells #[.int .i64 s, .int .i64 t] 2)
            clear HC hap hR4
            go_wp2_with (at_builtin; refine wpList_push elem_ints rfl (.tmp 33) (.tmp 37) rfl w2.heap.size rfl HR4.out.outer (.slice (some ⟨w4.heap.size, 0, none⟩) 2 2) (by first | rfl | (show Value.slice _ 1 1 = _; simp)) rfl (by unfold maxLen; omega) (by omega) (by simp; omega) ?_; intro v6 w6 ho6 hg6 hs6)
            have hT6 := HR4.out.pushed (ys := [(s : Int), (t : Int)]) hg6 ho6 HLIT.out hlw5 HAP.out
            rw [show ([(s : Int), (t : Int)]) = [(s : Int), ((s + 1 + k : Nat) : Int)] by rw [HTE.out], HN.out] at hT6
            have HT6 := Lib.hid hT6
            have hb7 := Below.grown hb6 hg6 (by simp; omega) (fun g hg => (own_block HR4.out.outer hg).1)
            clear ho6 hg6 hs6 hT6
            go_wp2
            go_roundw
            case rel => exact ⟨k + 1, by omega, by rw [HTE.out]; go_num, ⟨_, HT6.out⟩, hb7⟩
            case measure => simp [intOf]; omega
        · have hkn : k = n - (s + 1) := by omega
          have HT4 : Hid (∃ rs : List Value, OwnRows wr w2.heap.size (.slice ar mr cr) rs (pairsTo P n (s + 1))) := ⟨_, by rw [← pairsUp_all, ← hkn]; exact HR2.out⟩
          clear hkn
          go_wp2
          go_roundw
          case rel => exact ⟨s + 1, by omega, by go_num, HT4.out, hb3⟩
          case measure => simp [intOf]; omega
    · obtain rfl : s = n := by omega
      have hbw : Below w.heap.size w wr := below_trans hb2 hb
      have hlo := hb2.size
      go_wp2
      go_ret
      exact ⟨_, rs, rfl, HT3.out.mono hlo, hbw⟩

set_option maxRecDepth 100000 in
set_option maxHeartbeats 4000000 in
theorem specStable_any (st : Int) (v : Value) (xss : List (List Int)) (w : World) (h1 : Rows2 w v xss) :
    Calls Try.prog 43 #[.agg #[.int .i64 st, v]] w (NewRows2 (spZs st xss) (rkCd st xss) w) := by
  obtain ⟨ao, m, c, rfl, HM⟩ := h1.shape
  obtain ⟨W1, hW1⟩ : ∃ W1, W1 = w.alloc (.cells #[.int .i64 st, .slice ao m c] 26) := ⟨_, rfl⟩
  have bx : Below w.heap.size w W1 := by rw [hW1]; exact below_alloc (Below.refl _ _) _
  have p0 : W1.cell? ⟨w.heap.size, 0, none⟩ = some (.int .i64 st) := by rw [hW1]; go_simp
  have p1 : W1.cell? ⟨w.heap.size, 1, none⟩ = some (.slice ao m c) := by rw [hW1]; go_simp
  have HOK := Lib.hid (l01Ok_any w.heap.size 0 st _ xss W1 p0 p1 (h1.kept bx))
  cases hv : validB st xss
  · rw [show spZs st xss = [] by simp [spZs, hv], show rkCd st xss = 1 by simp [rkCd, hv]]
    rw [hv] at HOK
    subst hW1
    clear hv h1
    go_enter Try.func43, Try.ntmps43
    go_wp2_with fail
    refine HOK.out.mono ?_
    rintro e w2 ⟨rfl, hq⟩
    have hb := hq.below (w.alloc (.cells #[.int .i64 st, .slice ao m c] 26)).heap.size
    have HE := Lib.hid (ownRows_empty w2 w.heap.size (by have := hb.size; simp at this; omega))
    go_wp2
    go_ret2
    exact ⟨_, [], rfl, HE.out, below_trans bx (below_trans hb (below_alloc (Below.refl _ _) _))⟩
  · obtain ⟨n, hg⟩ := good_of hv
    rw [show spZs st xss = pairsTo (stB xss) n n by unfold spZs; rw [if_pos hv, show st.toNat = n by have := hg.st; omega], show rkCd st xss = 0 by simp [rkCd, hv]]
    rw [hv] at HOK
    obtain rfl := hg.st
    have HTB := Lib.hid (fun W (hW : Below W1.heap.size W1 W) => l02Stable_any w.heap.size _ xss n W (below_cell hW p0) (below_cell hW p1) ((h1.kept bx).kept hW) hg)
    have E1 : Hid (W1.heap.size = w.heap.size + 1) := by unfold Hid; rw [hW1]; simp
    subst hW1
    clear hv h1 hg
    go_enter Try.func43, Try.ntmps43
    go_wp2_with fail
    refine HOK.out.mono ?_
    rintro e w2 ⟨rfl, hq⟩
    have hb := hq.below (w.alloc (.cells #[.int .i64 n, .slice ao m c] 26)).heap.size
    go_wp2_with fail
    refine (HTB.out _ hb).mono ?_
    rintro e w4 ⟨v4, rs, rfl, ho, hb4⟩
    obtain ⟨a4, m4, c4, rfl, HM4⟩ := own_shape ho.outer
    have HO := Lib.hid ho
    have hsz := hb.size
    have hbb := below_trans bx (below_trans hb hb4)
    clear ho
    go_wp2
    go_ret2
    exact ⟨_, rs, rfl, HO.out.mono (by rw [E1.out] at hsz; omega), hbb⟩

end Go.Proofs.Ytbcfnibpdfonkaa
