/- AutomatonText, of the reference and of the program. -/
import Derived.Test.YtbcfnibpdfonkaaDoorText
import Derived.Test.YtbcfnibpdfonkaaDoorSpecOk
namespace Go.Proofs.YtbcfnibpdfonkaaDoor
set_option linter.unusedVariables false
set_option linter.unusedSimpArgs false
open Go.ChangeShapes Go.WideShapes Go.ChangeAt Go.RowKit

def autoW : ByteArray := ⟨#[97, 117, 116, 111, 109, 97, 116, 111, 110]⟩
def letterW : ByteArray := ⟨#[108, 101, 116, 116, 101, 114]⟩
def autoTx (st : Int) (xss : List (List Int)) : ByteArray := if validB st xss = true then rowsT (lineB autoW [st, xss.length]) letterW xss else ⟨#[]⟩
theorem Good.small {st : Int} {n : Nat} {xss : List (List Int)} (h : Good st n xss) {k : Nat} (hk : k < xss.length) : ∀ z ∈ xss.getD k [], 0 ≤ z ∧ z ≤ 10 := fun z hz => by
  have := (h.rows.row hk).2 z hz
  have := h.hi
  omega

set_option maxRecDepth 100000 in
set_option maxHeartbeats 1000000 in
theorem implAutoText_any (st : Int) (v : Value) (xss : List (List Int)) (w : World) (h1 : Rows2 w v xss) :
    Calls Tryd.prog 9 #[.agg #[.int .i64 st, v]] w (RetB (.string (autoTx st xss)) w) := by
  obtain ⟨ao1, p1, o1, c1, H1⟩ := h1.open
  have hv1 := H1.val
  subst hv1
  have hm := H1.len
  obtain ⟨W1, hW1⟩ : ∃ W1, W1 = w.alloc (.cells #[.int .i64 st, .slice ao1 xss.length c1] 27) := ⟨_, rfl⟩
  have bx : Below w.heap.size w W1 := by rw [hW1]; exact below_alloc (Below.refl _ _) _
  have p0 : W1.cell? ⟨w.heap.size, 0, none⟩ = some (.int .i64 st) := by rw [hW1]; go_simp
  have p1' : W1.cell? ⟨w.heap.size, 1, none⟩ = some (.slice ao1 xss.length c1) := by rw [hW1]; go_simp
  have HOK := Lib.hid (validAuto_any st _ xss W1 (h1.kept bx))
  cases hv : validB st xss
  · rw [show autoTx st xss = ⟨#[]⟩ by simp [autoTx, hv]]
    rw [hv] at HOK
    subst hW1
    clear hv h1 H1
    go_enter Tryd.func9, Tryd.ntmps9
    go_wp2_with fail
    refine HOK.out.mono ?_
    rintro e w2 ⟨rfl, hb⟩
    go_wp2
    go_ret
    exact ⟨rfl, below_trans bx hb⟩
  · obtain ⟨n, hg⟩ := good_of hv
    rw [hv] at HOK
    have hst := hg.st
    have hlo := hg.lo
    have hhi := hg.hi
    have hl1 := hg.len1
    have hl3 := hg.len3
    have HLE := Lib.hid (fun W => lettersAuto_any st ao1 xss.length c1 W hm)
    have HHD := Lib.hid (fun W v (hi : Ints W v [st, (xss.length : Int)]) => line_any autoW v [st, (xss.length : Int)] W hi (by intro z hz; simp at hz; rcases hz with rfl | rfl <;> omega) (by decide) (by simp))
    have HRW := Lib.hid (fun k (hk : k < xss.length) W v (hi : Ints W v (xss.getD k [])) => line_any letterW v (xss.getD k []) W hi (hg.small hk) (by decide) (by rw [hg.row hk]; omega))
    have HTX : Hid (autoTx st xss = rowsT (lineB autoW [st, xss.length]) letterW xss) := by unfold Hid autoTx; rw [if_pos hv]
    have hh0 := lineB_size autoW [st, (xss.length : Int)]
    have hh : (lineB autoW [st, (xss.length : Int)]).size ≤ 20 := Nat.le_trans hh0 (by show 9 + 3 * 2 + 1 ≤ 20; omega)
    have HSZ := Lib.hid (fun k => rowsT_size (n := 10) letterW (xss.take k) (fun r hr => by have := (hg.rows r (List.mem_of_mem_take hr)).1; omega) (lineB autoW [st, (xss.length : Int)]))
    have HTK := Lib.hid (rowsT_take (lineB autoW [st, (xss.length : Int)]) letterW xss)
    have HLS := Lib.hid (fun k (hk : k < xss.length) => (show (lineB letterW (xss.getD k [])).size ≤ 100 from Nat.le_trans (lineB_size _ _) (by rw [hg.row hk]; show 6 + 3 * n + 1 ≤ 100; omega)))
    generalize lineB autoW [st, (xss.length : Int)] = hd at HHD HTX HSZ HTK hh
    subst hW1
    clear hv hg h1 hh0 hst
    go_enter Tryd.func9, Tryd.ntmps9
    go_wp2_with fail
    refine HOK.out.mono ?_
    rintro e w2 ⟨rfl, hb⟩
    replace p0 := below_cell hb p0
    replace p1' := below_cell hb p1'
    have bw2 := below_trans bx hb
    have z0 := block_lt_of_cell p0
    clear hb
    go_wp2
    go_region_held3 (fun w' => Below w2.heap.size w2 w' ∧ ∀ b o, b < w2.heap.size → w'.cell? ⟨b, o, none⟩ = w2.cell? ⟨b, o, none⟩) (first | exact held_start | assumption | exact held_nx (by assumption) (by assumption) | exact held_alloc (by assumption))
      (first
        | (go_simp; go_at_call 27; refine (HLE.out _).mono ?_; rintro e w3 ⟨rfl, hb3⟩)
        | (go_simp; go_at_call 26; refine (HHD.out _ _ (ints_pair _ _ _ _)).mono ?_; rintro e w4 ⟨rfl, rfl⟩))
    all_goals
      rename Below w2.heap.size w2 _ ∧ _ => hS
      obtain ⟨hw4, hcs⟩ := hS
      have q1 := below_cell hw4 p1'
      have bw4 := below_trans bw2 hw4
      clear hcs
      go_wp2
      go_loop [3, 18] (fun o i => ∃ k : Nat, k ≤ xss.length ∧ i = .int .i64 k ∧ o = .string (rowsT hd letterW (xss.take k))) (fun _ i => xss.length - (intOf i).toNat)
      case atStart => exact ⟨0, Nat.zero_le _, rfl, rfl⟩
      case round =>
        obtain ⟨k, hk, rfl, rfl⟩ := hrel
        have hsz := HSZ.out k
        have hlt4 : (xss.take k).length ≤ 3 := by rw [List.length_take]; omega
        have hs6 : letterW.size = 6 := rfl
        have hsz2 : (rowsT hd letterW (xss.take k)).size ≤ 1000 := by
          have := Nat.mul_le_mul_right (letterW.size + 3 * 10 + 1) hlt4
          rw [hs6] at this hsz
          omega
        clear hsz hlt4
        by_cases hlt : k < xss.length
        · have i1 := idx_of Tryd.underlying22 size1_ints (c := c1) H1.adr hlt .i64
          obtain ⟨r1, d2, hr1⟩ := H1.cell k hlt
          have e2 := below_cell bw4 d2
          have HL := Lib.hid (HRW.out k hlt _ _ (hr1.kept bw4))
          have hls := HLS.out k hlt
          have HN := Lib.hid (HTK.out k hlt)
          obtain ⟨ar, mr, cr, rfl, HMr⟩ := hr1.shape
          generalize lineB letterW (xss.getD k []) = ln at HL HN hls
          generalize rowsT hd letterW (xss.take k) = o at HN hsz2 ⊢
          clear hr1
          go_wp2_with fail
          refine HL.out.mono ?_
          rintro e w5 ⟨rfl, rfl⟩
          go_wp2
          go_round
          case rel => exact ⟨k + 1, by omega, by go_num, by rw [HN.out]⟩
          case measure => simp [intOf]; omega
        · obtain rfl : k = xss.length := by omega
          rw [List.take_length]
          go_wp2
          go_ret
          exact ⟨by rw [HTX.out]; rfl, bw4⟩

set_option maxRecDepth 100000 in
set_option maxHeartbeats 1000000 in
theorem specAutoText_any (st : Int) (v : Value) (xss : List (List Int)) (w : World) (h1 : Rows2 w v xss) :
    Calls Tryd.prog 7 #[.agg #[.int .i64 st, v]] w (RetB (.string (autoTx st xss)) w) := by
  obtain ⟨ao1, p1, o1, c1, H1⟩ := h1.open
  have hv1 := H1.val
  subst hv1
  have hm := H1.len
  obtain ⟨W1, hW1⟩ : ∃ W1, W1 = w.alloc (.cells #[.int .i64 st, .slice ao1 xss.length c1] 27) := ⟨_, rfl⟩
  have bx : Below w.heap.size w W1 := by rw [hW1]; exact below_alloc (Below.refl _ _) _
  have p0 : W1.cell? ⟨w.heap.size, 0, none⟩ = some (.int .i64 st) := by rw [hW1]; go_simp
  have p1' : W1.cell? ⟨w.heap.size, 1, none⟩ = some (.slice ao1 xss.length c1) := by rw [hW1]; go_simp
  have HOK := Lib.hid (l01Ok_any w.heap.size 0 st _ xss W1 p0 p1' (h1.kept bx))
  cases hv : validB st xss
  · rw [show autoTx st xss = ⟨#[]⟩ by simp [autoTx, hv]]
    rw [hv] at HOK
    subst hW1
    clear hv h1 H1
    go_enter Tryd.func7, Tryd.ntmps7
    go_wp2_with fail
    refine HOK.out.mono ?_
    rintro e w2 ⟨rfl, hq⟩
    have hb := hq.below (w.alloc (.cells #[.int .i64 st, .slice ao1 xss.length c1] 27)).heap.size
    go_wp2
    go_ret
    exact ⟨rfl, below_trans bx hb⟩
  · obtain ⟨n, hg⟩ := good_of hv
    rw [hv] at HOK
    have hst := hg.st
    have hlo := hg.lo
    have hhi := hg.hi
    have hl1 := hg.len1
    have hl3 := hg.len3
    have HD1 := Lib.hid (fun W => specDecimal_any st W (by omega) (by omega))
    have HD2 := Lib.hid (fun W => specDecimal_any (xss.length : Int) W (by omega) (by omega))
    have HDZ := Lib.hid (fun k (hk : k < xss.length) j (hj : j < n) W => specDecimal_any ((xss.getD k []).getD j 0) W (hg.val hk hj).1 (by have := (hg.val hk hj).2; omega))
    have HRL := Lib.hid (fun k (hk : k < xss.length) => hg.row hk)
    have HTX : Hid (autoTx st xss = rowsT (lineB autoW [st, xss.length]) letterW xss) := by unfold Hid autoTx; rw [if_pos hv]
    have hh0 := lineB_size autoW [st, (xss.length : Int)]
    have hh : (lineB autoW [st, (xss.length : Int)]).size ≤ 20 := Nat.le_trans hh0 (by show 9 + 3 * 2 + 1 ≤ 20; omega)
    have HHD : Hid (((autoW ++ spB) ++ dec st) ++ spB ++ dec (xss.length : Int) ++ nlB = lineB autoW [st, (xss.length : Int)]) := by
      unfold Hid lineB numB
      simp only [List.foldl_cons, List.foldl_nil, ByteArray.append_assoc]
    have HSZ := Lib.hid (fun k => rowsT_size (n := 10) letterW (xss.take k) (fun r hr => by have := (hg.rows r (List.mem_of_mem_take hr)).1; omega) (lineB autoW [st, (xss.length : Int)]))
    have HTK := Lib.hid (rowsT_take (lineB autoW [st, (xss.length : Int)]) letterW xss)
    have hd1 := dec_size st
    have hd2 := dec_size (xss.length : Int)
    generalize lineB autoW [st, (xss.length : Int)] = hd at HHD HTX HSZ HTK hh
    generalize dec st = ds at HD1 HHD hd1
    generalize dec (xss.length : Int) = dl at HD2 HHD hd2
    subst hW1
    clear hv hg h1 hh0 hst
    go_enter Tryd.func7, Tryd.ntmps7
    go_wp2_with fail
    refine HOK.out.mono ?_
    rintro e w2 ⟨rfl, hq⟩
    have hb := hq.below (w.alloc (.cells #[.int .i64 st, .slice ao1 xss.length c1] 27)).heap.size
    replace p0 := below_cell hb p0
    replace p1' := below_cell hb p1'
    have bw2 := below_trans bx hb
    have z0 := block_lt_of_cell p0
    clear hb hq
    go_wp2
    have a1 : ∀ W, (Op.stringOp .add ⟨#[97, 117, 116, 111, 109, 97, 116, 111, 110, 32]⟩ ds).run Tryd.prog W = .ok (.string (⟨#[97, 117, 116, 111, 109, 97, 116, 111, 110, 32]⟩ ++ ds)) W := fun W => run_string_add_sum W _ _ (by show 10 + ds.size ≤ _; omega)
    have a2 : ∀ W, (Op.stringOp .add (⟨#[97, 117, 116, 111, 109, 97, 116, 111, 110, 32]⟩ ++ ds) ⟨#[32]⟩).run Tryd.prog W = .ok (.string (⟨#[97, 117, 116, 111, 109, 97, 116, 111, 110, 32]⟩ ++ ds ++ ⟨#[32]⟩)) W := fun W => run_string_add_sum W _ _ (by rw [ByteArray.size_append]; show 10 + ds.size + 1 ≤ _; omega)
    have a3 : ∀ W, (Op.stringOp .add (⟨#[97, 117, 116, 111, 109, 97, 116, 111, 110, 32]⟩ ++ ds ++ ⟨#[32]⟩) dl).run Tryd.prog W = .ok (.string (⟨#[97, 117, 116, 111, 109, 97, 116, 111, 110, 32]⟩ ++ ds ++ ⟨#[32]⟩ ++ dl)) W := fun W => run_string_add_sum W _ _ (by rw [ByteArray.size_append, ByteArray.size_append]; show 10 + ds.size + 1 + dl.size ≤ _; omega)
    have a4 : ∀ W, (Op.stringOp .add (⟨#[97, 117, 116, 111, 109, 97, 116, 111, 110, 32]⟩ ++ ds ++ ⟨#[32]⟩ ++ dl) ⟨#[10]⟩).run Tryd.prog W = .ok (.string (⟨#[97, 117, 116, 111, 109, 97, 116, 111, 110, 32]⟩ ++ ds ++ ⟨#[32]⟩ ++ dl ++ ⟨#[10]⟩)) W := fun W => run_string_add_sum W _ _ (by rw [ByteArray.size_append, ByteArray.size_append, ByteArray.size_append]; show 10 + ds.size + 1 + dl.size + 1 ≤ _; omega)
    go_region_held3 (fun w' => Below w2.heap.size w2 w' ∧ ∀ b o, b < w2.heap.size → w'.cell? ⟨b, o, none⟩ = w2.cell? ⟨b, o, none⟩) (first | exact held_start | assumption | exact held_nx (by assumption) (by assumption) | exact held_alloc (by assumption))
      (first
        | (go_simp; go_at_call 23; (with_reducible refine (HD1.out _).mono ?_); rintro e w4 ⟨rfl, hb4⟩)
        | (go_simp; go_at_call 23; (with_reducible refine (HD2.out _).mono ?_); rintro e w4 ⟨rfl, hb4⟩))
    all_goals
      rename Below w2.heap.size w2 _ ∧ _ => hS
      obtain ⟨hw4, hcs⟩ := hS
      have q1 := below_cell hw4 p1'
      have bw4 := below_trans bw2 hw4
      clear hcs a1 a2 a3 a4
      go_wp2
      go_loopw [3, 4, 5] (fun o i _ wr => ∃ k : Nat, k ≤ xss.length ∧ i = .int .i64 k ∧ o = .string (rowsT hd letterW (xss.take k)) ∧ Below w2.heap.size w2 wr) (fun _ i _ _ => xss.length - (intOf i).toNat)
      case atStart => exact ⟨0, Nat.zero_le _, rfl, by rw [List.take_zero]; show _ = Value.string hd; rw [← HHD.out]; rfl, hw4⟩
      case round =>
        obtain ⟨k, hk, rfl, rfl, hbr⟩ := hrel
        have hsz := HSZ.out k
        have hlt4 : (xss.take k).length ≤ 3 := by rw [List.length_take]; omega
        have hs6 : letterW.size = 6 := rfl
        have hsz2 : (rowsT hd letterW (xss.take k)).size ≤ 1000 := by
          have := Nat.mul_le_mul_right (letterW.size + 3 * 10 + 1) hlt4
          rw [hs6] at this hsz
          omega
        clear hsz hlt4 q1 hw4
        have q1 := below_cell hbr p1'
        by_cases hlt : k < xss.length
        · have i1 := idx_of Tryd.underlying22 size1_ints (c := c1) H1.adr hlt .i64
          obtain ⟨r1, d2, hr1⟩ := H1.cell k hlt
          have bwr := below_trans bw2 hbr
          have e2 := below_cell bw2 d2
          have e2w := below_cell hbr e2
          obtain ⟨ao2, p2, o2, c2, H2⟩ := hr1.open
          have hv2 := H2.val
          subst hv2
          have hm2 := H2.len
          have hrl := HRL.out k hlt
          have A2 := H2.adr
          rw [hrl] at A2 e2 e2w hm2
          have HRL2 := Lib.hid hrl
          have HN := Lib.hid (HTK.out k hlt)
          have HNT := Lib.hid (fun (o : ByteArray) j (hj : j < n) => numB_take (o ++ letterW) (xss.getD k []) j (by rw [hrl]; exact hj))
          have HNS := Lib.hid (fun (o : ByteArray) j => numB_size ((xss.getD k []).take j) (o ++ letterW))
          have HAP := Lib.hid (fun (o : ByteArray) => numB_append o (xss.getD k []) letterW)
          have HDK := Lib.hid (HDZ.out k hlt)
          have HDS := Lib.hid (fun j => dec_size ((xss.getD k []).getD j 0))
          have HLB : Hid (lineB letterW (xss.getD k []) = numB letterW (xss.getD k []) ++ nlB) := rfl
          generalize rowsT hd letterW (xss.take k) = o at HN hsz2 ⊢
          clear hr1 hrl d2
          obtain ⟨wo, rfl⟩ : ∃ wo : World, wo = wr := ⟨_, rfl⟩
          go_wp2
          go_loopw [3, 5] (fun u i wr => ∃ j : Nat, j ≤ n ∧ i = .int .i64 j ∧ u = .string (numB (o ++ letterW) ((xss.getD k []).take j)) ∧ Below w2.heap.size w2 wr) (fun _ i _ => n - (intOf i).toNat)
          case atStart => exact ⟨0, Nat.zero_le _, rfl, rfl, hbr⟩
          case round =>
            obtain ⟨j, hj, rfl, rfl, hbx⟩ := hrel
            have f1 := below_cell hbx p1'
            have f2 := below_cell (below_trans bw2 hbx) (H1.cell k hlt).choose_spec.1
            have hns := HNS.out o j
            have hns2 : (numB (o ++ letterW) ((xss.getD k []).take j)).size ≤ 2000 := by
              rw [ByteArray.size_append, List.length_take, hs6] at hns
              omega
            by_cases hlt2 : j < n
            · have i2 := idx_of Tryd.underlying50 size1_int (c := c2) A2 hlt2 .i64
              have f3 := below_cell (below_trans bw2 hbx) (H2.cell j (by rw [HRL2.out]; exact hlt2))
              have HDJ := Lib.hid (HDK.out j hlt2)
              have hdj := HDS.out j
              have HNJ := Lib.hid (HNT.out o j hlt2)
              have e2' := HRL2.out
              obtain ⟨z, hz⟩ : ∃ z, z = (xss.getD k []).getD j 0 := ⟨_, rfl⟩
              rw [← hz] at f3 HDJ hdj HNJ
              have f2' : wr.cell? ⟨p1, o1 + k, none⟩ = some (.slice ao2 n c2) := below_cell hbx e2
              generalize dec z = d at HDJ hdj HNJ
              generalize numB (o ++ letterW) ((xss.getD k []).take j) = u at HNJ hns2 ⊢
              have hs1 : spB.size = 1 := rfl
              clear hz e2' f2 hns
              go_wp2_with fail
              refine (HDJ.out _).mono ?_
              rintro e w5 ⟨rfl, hb5⟩
              have hbb := below_trans hbx hb5
              go_wp2
              go_roundw
              case rel => exact ⟨j + 1, by omega, by go_num, by rw [HNJ.out]; rfl, hbb⟩
              case measure => simp [intOf]; omega
            · obtain rfl : j = n := by omega
              have f2' : wr.cell? ⟨p1, o1 + k, none⟩ = some (.slice ao2 j c2) := below_cell hbx e2
              have hu : numB (o ++ letterW) ((xss.getD k []).take j) = o ++ numB letterW (xss.getD k []) := by rw [List.take_of_length_le (by rw [HRL2.out]; exact Nat.le_refl _), HAP.out]
              rw [hu] at hns2 ⊢
              have HFIN : Hid (rowsT hd letterW (xss.take (k + 1)) = o ++ numB letterW (xss.getD k []) ++ nlB) := by unfold Hid; rw [HN.out, HLB.out, ByteArray.append_assoc]
              generalize o ++ numB letterW (xss.getD k []) = u at HFIN hns2 ⊢
              clear hu f2 hns
              go_wp2
              go_roundw
              case rel => exact ⟨k + 1, by omega, by go_num, by rw [HFIN.out]; rfl, hbx⟩
              case measure => simp [intOf]; omega
        · obtain rfl : k = xss.length := by omega
          rw [List.take_length]
          go_wp2
          go_ret
          exact ⟨by rw [HTX.out]; rfl, below_trans bw2 hbr⟩

end Go.Proofs.YtbcfnibpdfonkaaDoor
