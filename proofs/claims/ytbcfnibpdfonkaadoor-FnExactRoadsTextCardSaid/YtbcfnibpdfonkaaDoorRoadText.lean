/- RoadsText, of the reference and of the program. -/
import Derived.Test.YtbcfnibpdfonkaaDoorText
import Derived.Test.YtbcfnibpdfonkaaDoorValidRoad
namespace Go.Proofs.YtbcfnibpdfonkaaDoor
set_option linter.unusedVariables false
set_option linter.unusedSimpArgs false
open Go.ChangeShapes Go.WideShapes Go.ChangeAt Go.RowKit

def townW : ByteArray := ⟨#[116, 111, 119, 110]⟩
def roadTx (st : Int) (xss : List (List Int)) : ByteArray := if validR st xss = true then rowsT ⟨#[]⟩ townW xss else ⟨#[]⟩
structure GoodR (st : Int) (n d : Nat) (xss : List (List Int)) : Prop where
  st : st = n
  lo : 1 ≤ n
  hi : n ≤ 7
  len : xss.length = n
  d1 : 1 ≤ d
  d3 : d ≤ 3
  rows : ∀ r ∈ xss, r.length = d ∧ ∀ z ∈ r, 0 ≤ z ∧ z < n
theorem goodR_of {st : Int} {xss : List (List Int)} (h : validR st xss = true) : ∃ n d : Nat, GoodR st n d xss := by
  unfold validR at h
  rw [Bool.and_eq_true, Bool.and_eq_true, Bool.and_eq_true] at h
  obtain ⟨h1, h2, h3, h4⟩ := h
  have h1' := inB_true.1 h1
  have h2' := of_decide_eq_true h2
  have h3' := inB_true.1 h3
  refine ⟨st.toNat, (xss.getD 0 []).length, by omega, by omega, by omega, by omega, by omega, by omega, fun r hr => ?_⟩
  unfold roadsB at h4
  have := List.all_eq_true.1 h4 r hr
  unfold roadB at this
  rw [Bool.and_eq_true, Bool.and_eq_true] at this
  obtain ⟨a, b, c⟩ := this
  have a' := of_decide_eq_true a
  refine ⟨by omega, fun z hz => ?_⟩
  have := allIn_iff.1 b z hz
  omega
theorem GoodR.row {st : Int} {n d : Nat} {xss : List (List Int)} (h : GoodR st n d xss) {x : Nat} (hx : x < xss.length) : (xss.getD x []).length = d := (h.rows _ (getD_mem hx _)).1
theorem GoodR.val {st : Int} {n d : Nat} {xss : List (List Int)} (h : GoodR st n d xss) {x s : Nat} (hx : x < xss.length) (hs : s < d) : 0 ≤ (xss.getD x []).getD s 0 ∧ (xss.getD x []).getD s 0 < n :=
  (h.rows _ (getD_mem hx _)).2 _ (getD_mem (by rw [h.row hx]; exact hs) _)
theorem GoodR.small {st : Int} {n d : Nat} {xss : List (List Int)} (h : GoodR st n d xss) {k : Nat} (hk : k < xss.length) : ∀ z ∈ xss.getD k [], 0 ≤ z ∧ z ≤ 10 := fun z hz => by
  have := (h.rows _ (getD_mem hk _)).2 z hz
  have := h.hi
  omega

set_option maxRecDepth 100000 in
set_option maxHeartbeats 1000000 in
theorem implRoadText_any (st : Int) (v : Value) (xss : List (List Int)) (w : World) (h1 : Rows2 w v xss) :
    Calls Tryd.prog 14 #[.agg #[.int .i64 st, v]] w (RetB (.string (roadTx st xss)) w) := by
  obtain ⟨ao1, p1, o1, c1, H1⟩ := h1.open
  have hv1 := H1.val
  subst hv1
  have hm := H1.len
  obtain ⟨W1, hW1⟩ : ∃ W1, W1 = w.alloc (.cells #[.int .i64 st, .slice ao1 xss.length c1] 35) := ⟨_, rfl⟩
  have bx : Below w.heap.size w W1 := by rw [hW1]; exact below_alloc (Below.refl _ _) _
  have p0 : W1.cell? ⟨w.heap.size, 0, none⟩ = some (.int .i64 st) := by rw [hW1]; go_simp
  have p1' : W1.cell? ⟨w.heap.size, 1, none⟩ = some (.slice ao1 xss.length c1) := by rw [hW1]; go_simp
  have HOK := Lib.hid (validRoad_any st _ xss W1 (h1.kept bx))
  cases hv : validR st xss
  · rw [show roadTx st xss = ⟨#[]⟩ by simp [roadTx, hv]]
    rw [hv] at HOK
    subst hW1
    clear hv h1 H1
    go_enter Tryd.func14, Tryd.ntmps14
    go_wp2_with fail
    refine HOK.out.mono ?_
    rintro e w2 ⟨rfl, hb⟩
    go_wp2
    go_ret
    exact ⟨rfl, below_trans bx hb⟩
  · obtain ⟨n, d, hg⟩ := goodR_of hv
    rw [hv] at HOK
    have hst := hg.st
    have hlo := hg.lo
    have hxl : xss.length ≤ 7 := by have := hg.len; have := hg.hi; omega
    have hhi := hg.hi
    have hlen := hg.len
    have hd3 := hg.d3
    have HRW := Lib.hid (fun k (hk : k < xss.length) W v (hi : Ints W v (xss.getD k [])) => line_any townW v (xss.getD k []) W hi (hg.small hk) (by decide) (by rw [hg.row hk]; omega))
    have HTX : Hid (roadTx st xss = rowsT ⟨#[]⟩ townW xss) := by unfold Hid roadTx; rw [if_pos hv]
    have HSZ := Lib.hid (fun k => rowsT_size (n := 10) townW (xss.take k) (fun r hr => by have := (hg.rows r (List.mem_of_mem_take hr)).1; omega) ⟨#[]⟩)
    have HTK := Lib.hid (rowsT_take ⟨#[]⟩ townW xss)
    have HLS := Lib.hid (fun k (hk : k < xss.length) => (show (lineB townW (xss.getD k [])).size ≤ 100 from Nat.le_trans (lineB_size _ _) (by rw [hg.row hk]; show 4 + 3 * d + 1 ≤ 100; omega)))
    subst hW1
    clear hv hg h1 hst hlen
    go_enter Tryd.func14, Tryd.ntmps14
    go_wp2_with fail
    refine HOK.out.mono ?_
    rintro e w2 ⟨rfl, hb⟩
    replace p0 := below_cell hb p0
    replace p1' := below_cell hb p1'
    have q1 := p1'
    have bw2 := below_trans bx hb
    have z0 := block_lt_of_cell p0
    clear hb
    go_wp2
    go_wp2
    go_loop [3, 12] (fun o i => ∃ k : Nat, k ≤ xss.length ∧ i = .int .i64 k ∧ o = .string (rowsT ⟨#[]⟩ townW (xss.take k))) (fun _ i => xss.length - (intOf i).toNat)
    case atStart => exact ⟨0, Nat.zero_le _, rfl, rfl⟩
    case round =>
      obtain ⟨k, hk, rfl, rfl⟩ := hrel
      have hsz := HSZ.out k
      have hlt4 : (xss.take k).length ≤ 7 := by rw [List.length_take]; omega
      have hs6 : townW.size = 4 := rfl
      have hsz2 : (rowsT ⟨#[]⟩ townW (xss.take k)).size ≤ 1000 := by
        have := Nat.mul_le_mul_right (townW.size + 3 * 10 + 1) hlt4
        rw [hs6] at this hsz
        have hem : (⟨#[]⟩ : ByteArray).size = 0 := rfl
        omega
      clear hsz hlt4
      by_cases hlt : k < xss.length
      · have i1 := idx_of Tryd.underlying22 size1_ints (c := c1) H1.adr hlt .i64
        obtain ⟨r1, d2, hr1⟩ := H1.cell k hlt
        have e2 := below_cell bw2 d2
        have HL := Lib.hid (HRW.out k hlt _ _ (hr1.kept bw2))
        have hls := HLS.out k hlt
        have HN := Lib.hid (HTK.out k hlt)
        obtain ⟨ar, mr, cr, rfl, HMr⟩ := hr1.shape
        generalize lineB townW (xss.getD k []) = ln at HL HN hls
        generalize rowsT ⟨#[]⟩ townW (xss.take k) = o at HN hsz2 ⊢
        clear hr1
        go_wp2_with fail
        refine HL.out.mono ?_
        rintro e w5 ⟨rfl, rfl⟩
        go_wp2
        go_round
        case rel => exact ⟨k + 1, by omega, by go_num, by rw [HN.out]⟩
        case measure => simp [intOf]; omega
      · obtain rfl : k = xss.length := by omega
        rw [List.take_length]
        go_wp2
        go_ret
        exact ⟨by rw [HTX.out]; rfl, bw2⟩

set_option maxRecDepth 100000 in
set_option maxHeartbeats 1000000 in
theorem specRoadText_any (st : Int) (v : Value) (xss : List (List Int)) (w : World) (h1 : Rows2 w v xss) :
    Calls Tryd.prog 12 #[.agg #[.int .i64 st, v]] w (RetB (.string (roadTx st xss)) w) := by
  obtain ⟨ao1, p1, o1, c1, H1⟩ := h1.open
  have hv1 := H1.val
  subst hv1
  have hm := H1.len
  obtain ⟨W1, hW1⟩ : ∃ W1, W1 = w.alloc (.cells #[.int .i64 st, .slice ao1 xss.length c1] 35) := ⟨_, rfl⟩
  have bx : Below w.heap.size w W1 := by rw [hW1]; exact below_alloc (Below.refl _ _) _
  have p0 : W1.cell? ⟨w.heap.size, 0, none⟩ = some (.int .i64 st) := by rw [hW1]; go_simp
  have p1' : W1.cell? ⟨w.heap.size, 1, none⟩ = some (.slice ao1 xss.length c1) := by rw [hW1]; go_simp
  have HOK := Lib.hid (l05Ok_any w.heap.size 0 st _ xss W1 p0 p1' (h1.kept bx))
  cases hv : validR st xss
  · rw [show roadTx st xss = ⟨#[]⟩ by simp [roadTx, hv]]
    rw [hv] at HOK
    subst hW1
    clear hv h1 H1
    go_enter Tryd.func12, Tryd.ntmps12
    go_wp2_with fail
    refine HOK.out.mono ?_
    rintro e w2 ⟨rfl, hq⟩
    have hb := hq.below (w.alloc (.cells #[.int .i64 st, .slice ao1 xss.length c1] 35)).heap.size
    go_wp2
    go_ret
    exact ⟨rfl, below_trans bx hb⟩
  · obtain ⟨n, d, hg⟩ := goodR_of hv
    rw [hv] at HOK
    have hst := hg.st
    have hlo := hg.lo
    have hxl : xss.length ≤ 7 := by have := hg.len; have := hg.hi; omega
    have hhi := hg.hi
    have hlen := hg.len
    have hd3 := hg.d3
    have HDZ := Lib.hid (fun k (hk : k < xss.length) j (hj : j < d) W => specDecimal_any ((xss.getD k []).getD j 0) W (hg.val hk hj).1 (by have := (hg.val hk hj).2; omega))
    have HRL := Lib.hid (fun k (hk : k < xss.length) => hg.row hk)
    have HTX : Hid (roadTx st xss = rowsT ⟨#[]⟩ townW xss) := by unfold Hid roadTx; rw [if_pos hv]
    have HSZ := Lib.hid (fun k => rowsT_size (n := 10) townW (xss.take k) (fun r hr => by have := (hg.rows r (List.mem_of_mem_take hr)).1; omega) ⟨#[]⟩)
    have HTK := Lib.hid (rowsT_take ⟨#[]⟩ townW xss)
    subst hW1
    clear hv hg h1 hst hlen
    go_enter Tryd.func12, Tryd.ntmps12
    go_wp2_with fail
    refine HOK.out.mono ?_
    rintro e w2 ⟨rfl, hq⟩
    have hb := hq.below (w.alloc (.cells #[.int .i64 st, .slice ao1 xss.length c1] 35)).heap.size
    replace p0 := below_cell hb p0
    replace p1' := below_cell hb p1'
    have bw2 := below_trans bx hb
    have z0 := block_lt_of_cell p0
    clear hb hq
    go_wp2
    go_wp2
    go_loopw [3, 4, 5] (fun o i _ wr => ∃ k : Nat, k ≤ xss.length ∧ i = .int .i64 k ∧ o = .string (rowsT ⟨#[]⟩ townW (xss.take k)) ∧ Below w2.heap.size w2 wr) (fun _ i _ _ => xss.length - (intOf i).toNat)
    case atStart => exact ⟨0, Nat.zero_le _, rfl, rfl, Below.refl _ _⟩
    case round =>
      obtain ⟨k, hk, rfl, rfl, hbr⟩ := hrel
      have hsz := HSZ.out k
      have hlt4 : (xss.take k).length ≤ 7 := by rw [List.length_take]; omega
      have hs6 : townW.size = 4 := rfl
      have hsz2 : (rowsT ⟨#[]⟩ townW (xss.take k)).size ≤ 1000 := by
        have := Nat.mul_le_mul_right (townW.size + 3 * 10 + 1) hlt4
        rw [hs6] at this hsz
        have hem : (⟨#[]⟩ : ByteArray).size = 0 := rfl
        omega
      clear hsz hlt4
      have q1 := below_cell hbr p1'
      by_cases hlt : k < xss.length
      · have i1 := idx_of Tryd.underlying22 size1_ints (c := c1) H1.adr hlt .i64
        obtain ⟨r1, d2, hr1⟩ := H1.cell k hlt
        have bwr := below_trans bw2 hbr
        have e2 := below_cell bw2 d2
        have e2w := below_cell hbr e2
        obtain ⟨ao2, p2, o2, c2, H2⟩ := hr1.open
        have hv2 := H2.val
        subst hv2
        have hm2 := H2.len
        have hrl := HRL.out k hlt
        have A2 := H2.adr
        rw [hrl] at A2 e2 e2w hm2
        have HRL2 := Lib.hid hrl
        have HN := Lib.hid (HTK.out k hlt)
        have HNT := Lib.hid (fun (o : ByteArray) j (hj : j < d) => numB_take (o ++ townW) (xss.getD k []) j (by rw [hrl]; exact hj))
        have HNS := Lib.hid (fun (o : ByteArray) j => numB_size ((xss.getD k []).take j) (o ++ townW))
        have HAP := Lib.hid (fun (o : ByteArray) => numB_append o (xss.getD k []) townW)
        have HDK := Lib.hid (HDZ.out k hlt)
        have HDS := Lib.hid (fun j => dec_size ((xss.getD k []).getD j 0))
        have HLB : Hid (lineB townW (xss.getD k []) = numB townW (xss.getD k []) ++ nlB) := rfl
        generalize rowsT ⟨#[]⟩ townW (xss.take k) = o at HN hsz2 ⊢
        clear hr1 hrl d2
        obtain ⟨wo, rfl⟩ : ∃ wo : World, wo = wr := ⟨_, rfl⟩
        go_wp2
        go_loopw [3, 5] (fun u i wr => ∃ j : Nat, j ≤ d ∧ i = .int .i64 j ∧ u = .string (numB (o ++ townW) ((xss.getD k []).take j)) ∧ Below w2.heap.size w2 wr) (fun _ i _ => d - (intOf i).toNat)
        case atStart => exact ⟨0, Nat.zero_le _, rfl, rfl, hbr⟩
        case round =>
          obtain ⟨j, hj, rfl, rfl, hbx⟩ := hrel
          have f1 := below_cell hbx p1'
          have f2 := below_cell (below_trans bw2 hbx) (H1.cell k hlt).choose_spec.1
          have hns := HNS.out o j
          have hns2 : (numB (o ++ townW) ((xss.getD k []).take j)).size ≤ 2000 := by
            rw [ByteArray.size_append, List.length_take, hs6] at hns
            omega
          by_cases hlt2 : j < d
          · have i2 := idx_of Tryd.underlying50 size1_int (c := c2) A2 hlt2 .i64
            have f3 := below_cell (below_trans bw2 hbx) (H2.cell j (by rw [HRL2.out]; exact hlt2))
            have HDJ := Lib.hid (HDK.out j hlt2)
            have hdj := HDS.out j
            have HNJ := Lib.hid (HNT.out o j hlt2)
            have e2' := HRL2.out
            obtain ⟨z, hz⟩ : ∃ z, z = (xss.getD k []).getD j 0 := ⟨_, rfl⟩
            rw [← hz] at f3 HDJ hdj HNJ
            have f2' : wr.cell? ⟨p1, o1 + k, none⟩ = some (.slice ao2 d c2) := below_cell hbx e2
            generalize dec z = dz at HDJ hdj HNJ
            generalize numB (o ++ townW) ((xss.getD k []).take j) = u at HNJ hns2 ⊢
            have hs1 : spB.size = 1 := rfl
            clear hz e2' f2 hns
            go_wp2_with fail
            refine (HDJ.out _).mono ?_
            rintro e w5 ⟨rfl, hb5⟩
            have hbb := below_trans hbx hb5
            go_wp2
            go_roundw
            case rel => exact ⟨j + 1, by omega, by go_num, by rw [HNJ.out]; rfl, hbb⟩
            case measure => simp [intOf]; omega
          · obtain rfl : j = d := by omega
            have f2' : wr.cell? ⟨p1, o1 + k, none⟩ = some (.slice ao2 j c2) := below_cell hbx e2
            have hu : numB (o ++ townW) ((xss.getD k []).take j) = o ++ numB townW (xss.getD k []) := by rw [List.take_of_length_le (by rw [HRL2.out]; exact Nat.le_refl _), HAP.out]
            rw [hu] at hns2 ⊢
            have HFIN : Hid (rowsT ⟨#[]⟩ townW (xss.take (k + 1)) = o ++ numB townW (xss.getD k []) ++ nlB) := by unfold Hid; rw [HN.out, HLB.out, ByteArray.append_assoc]
            generalize o ++ numB townW (xss.getD k []) = u at HFIN hns2 ⊢
            clear hu f2 hns
            go_wp2
            go_roundw
            case rel => exact ⟨k + 1, by omega, by go_num, by rw [HFIN.out]; rfl, hbx⟩
            case measure => simp [intOf]; omega
      · obtain rfl : k = xss.length := by omega
        rw [List.take_length]
        go_wp2
        go_ret
        exact ⟨by rw [HTX.out]; rfl, below_trans bw2 hbr⟩

end Go.Proofs.YtbcfnibpdfonkaaDoor
