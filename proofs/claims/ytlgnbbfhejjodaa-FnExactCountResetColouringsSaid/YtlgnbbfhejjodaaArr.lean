/- arrangements and its closure, of the program. -/
import Derived.Test.YtlgnbbfhejjodaaArrAt
import Derived.Test.YtlgnbbfhejjodaaBits
import Derived.Test.YtlgnbbfhejjodaaSorted
import Derived.Shelf.SlicesG.Delete
namespace Go.Proofs.Ytlgnbbfhejjodaa
set_option linter.unusedVariables false
set_option linter.unusedSimpArgs false
open Go.ChangeShapes Go.WideShapes Go.ChangeAt Go.RowKit Go.Shelf Go.Sort

theorem deleteAt_any (g c k lo : Nat) (j : Int) (zs : List Int) (w : World) (ho : w.ownsRow lo 2 1 (.slice (some ⟨g, 0, none⟩) zs.length c) zs.length (zs.map (Value.int .i64))) (hl : zs.length ≤ 1048576) (hk : k < zs.length) (hj : j = k + 1) :
    Calls Try.prog 147 #[.slice (some ⟨g, 0, none⟩) zs.length c, .int .i64 k, .int .i64 j] w
      fun e w' => e = .returned (.slice (some ⟨g, 0, none⟩) (zs.eraseIdx k).length c) ∧ w'.ownsRow lo 2 1 (.slice (some ⟨g, 0, none⟩) (zs.eraseIdx k).length c) (zs.eraseIdx k).length ((zs.eraseIdx k).map (Value.int .i64)) ∧ Below lo w w' := by
  obtain ⟨g1, cap, e, hg1, hg2, hn, hm, _, hH⟩ := Lib.holds_of_ownsRow ho (by intro h; cases h)
  injection e with e1 _ e3
  injection e1 with e1
  injection e1 with e1
  subst e1; subst e3
  have h := AnyG.slices_Delete_int Try.ldelete g 0 c k (k + 1) zs w hH (by omega) (by have := hm; unfold maxLen at this; omega) (by omega) (by omega)
  have he : zs.eraseIdx k = zs.take k ++ zs.drop (k + 1) := List.eraseIdx_eq_take_drop_succ ..
  have hel : (zs.eraseIdx k).length = zs.length - 1 := by rw [List.length_eraseIdx, if_pos hk]
  rw [← he, show zs.length - (k + 1 - k) = (zs.eraseIdx k).length by omega, show k + 1 - k = 1 by omega] at h
  rw [show ((k + 1 : Nat) : Int) = j by omega] at h
  refine h.mono ?_
  rintro e w' ⟨rfl, q, rfl⟩
  refine ⟨rfl, ?_, Lib.below_putRow (q := q) (Below.refl lo w) hg1⟩
  have h2 := Lib.ownsRow_putRow (q := q) (ys := zs.eraseIdx k ++ List.replicate 1 0) (k := (zs.eraseIdx k).length) ho (by rw [List.length_append, List.length_replicate]; omega) (by omega)
  rw [List.take_left] at h2
  exact h2

def ArrPost (w : World) (lo bo bn : Nat) (ov nv : Value) (zss : List (List Int)) (N : List Int) (e : Ending) (w' : World) : Prop :=
  e = .returned (.tuple #[]) ∧ ∃ ov' nv', ArrTo w w' lo bo bn ov.ownBlock nv.ownBlock zss N ov' nv'

theorem fr_intsAt {w w' : World} {bo bn : Nat} {go gn : Option Nat} (h : Fr2 w w' bo bn go gn) {v : Value} {zs : List Int} {ao : Option Addr} {p o c : Nat} (H : IntsAt w v zs ao p o c) (hp : 0 < zs.length → p ≠ bo ∧ p ≠ bn ∧ some p ≠ go ∧ some p ≠ gn) : IntsAt w' v zs ao p o c :=
  ⟨H.val, H.adr, fun k hk => h.cell (H.cell k hk) (hp (by omega)).1 (hp (by omega)).2.1 (hp (by omega)).2.2.1 (hp (by omega)).2.2.2, H.len⟩

theorem arr_snoc (n : Nat) (rest N : List Int) (zss : List (List Int)) (k : Nat) (z : Int) (hz : rest.getD k 0 = z) (h : ¬ (0 < k ∧ rest.getD k 0 = rest.getD (k - 1) 0)) :
    (zss ++ (arrTo n rest k).map (N ++ ·)) ++ (arr n (rest.eraseIdx k)).map ((N ++ [z]) ++ ·) = zss ++ (arrTo n rest (k + 1)).map (N ++ ·) := by
  rw [arrTo_take h, List.map_append, ← List.append_assoc, hz]
  congr 1
  rw [List.map_map]
  apply List.map_congr_left
  intro b _
  simp

/-- the closure's function value -/
abbrev arrFn (bo bn bf : Nat) : Value := .func (.func 146) #[] #[.pointer (some ⟨bo, 0, none⟩), .pointer (some ⟨bn, 0, none⟩), .pointer (some ⟨bf, 0, none⟩)]

def ArrIs (n : Nat) : Prop := ∀ (rest : List Int) (v : Value) (ao : Option Addr) (p o c : Nat) (zss : List (List Int)) (N : List Int) (ov nv : Value) (rs : List Value) (lo bo bn bf : Nat) (w : World), rest.length = n → N.length + n ≤ 3 → zss.length + (arr n rest).length ≤ 10000 →
    IntsAt w v rest ao p o c → (0 < rest.length → p ≠ bo ∧ p ≠ bn ∧ some p ≠ ov.ownBlock ∧ some p ≠ nv.ownBlock) → ArrAt w lo bo bn ov rs zss nv N → w.cell? ⟨bf, 0, none⟩ = some (arrFn bo bn bf) → some bf ≠ ov.ownBlock → some bf ≠ nv.ownBlock → bf ≠ bo → bf ≠ bn →
    Calls Try.prog 146 #[v, .pointer (some ⟨bo, 0, none⟩), .pointer (some ⟨bn, 0, none⟩), .pointer (some ⟨bf, 0, none⟩)] w (ArrPost w lo bo bn ov nv (zss ++ (arr n rest).map (N ++ ·)) N)

set_option maxRecDepth 100000 in
set_option maxHeartbeats 4000000 in
theorem arrFrom_zero : ArrIs 0 := by
  intro rest v ao p o c zss N ov nv rs lo bo bn bf w hr hN hz H1 hp HA hf hlf hlf2 hfo hfn
  obtain rfl : rest = [] := List.eq_nil_of_length_eq_zero hr
  have hv1 := H1.val
  subst hv1
  have HR : Hid (zss ++ (arr 0 []).map (N ++ ·) = zss ++ [N]) := by simp [Hid, arr]
  rw [HR.out]
  have co := HA.co
  have cn := HA.cn
  have fo := HA.fo
  have lco := block_lt_of_cell co
  have lcn := block_lt_of_cell cn
  have hlco : bo < w.heap.size := lco
  have hlcn : bn < w.heap.size := lcn
  have hlow := HA.low
  have hzl : zss.length + 1 ≤ 10000 := by simp [arr] at hz; omega
  obtain ⟨an, mn, cn2, rfl, HMn⟩ := own_shape HA.now
  obtain ⟨aov, mov, cov, rfl, HMo⟩ := own_shape HA.rows.outer
  have HCL := Lib.hid (fun W (hW : Below w.heap.size w W) => cloneInts_any _ N W ((ints_of_own HA.now).kept hW) (by omega))
  have HAH := Lib.hid HA
  have hbw := Below.refl w.heap.size w
  have hbd := hbw.drew
  clear HA hp H1 hf hr hN hz hlf hlf2
  go_enter Try.func146, Try.ntmps146
  go_wp2
  go_region_law
    (first
      | (have j0 := below_cell (below_alloc hb5 (.cells #[.slice a4 m4 c4] 32)) co; have g0 := ((below_alloc hb5 (.cells #[.slice a4 m4 c4] 32)).frozen (p := ⟨bo, 0, none⟩) hlco).trans fo; have hz5 : w.heap.size ≤ w4.heap.size := hb5.size; refine step_appS elem_ints rfl (.tmp 10) (.tmp 13) rfl lo rfl (own_below HAH.out.rows.outer (below_alloc hb5 (.cells #[.slice a4 m4 c4] 32))) w4.heap.size (.slice a4 m4 c4) rfl (by go_simp) rfl (by unfold maxLen; omega) (by omega) (by simp; omega) ?_; intro v6 w6 ho6 hg6 hs6; obtain ⟨a6, m6, c6, rfl, HM6⟩ := own_shape ho6; have rc1 := gcell hg6 HAH.out.bo1 j0; have rc2 := gfrozen hg6 HAH.out.bo1 j0 g0; have lrc := block_lt_of_cell rc1; have hlrc : bo < w6.heap.size := lrc)
      | (go_simp; go_at_call 101; (with_reducible refine (HCL.out _ (by assumption)).mono ?_); rintro e w4 ⟨v4, rfl, ho4, hb4⟩; obtain ⟨a4, m4, c4, rfl, HM4⟩ := own_shape ho4; have hb5 : Below w.heap.size w w4 := (by first | exact hb4 | exact below_trans ((Below.refl w.heap.size w).drew) hb4); have k14 := below_cell hb5 co; have k15 := below_cell hb5 cn; have lob4 : bo < w4.heap.size := block_lt_of_cell k14))
  all_goals
    have hsz5 := hb5.size
    have hA4 := HAH.out.below (below_alloc hb5 (.cells #[.slice a4 m4 c4] 32))
    have hr4 := World.ownsRow.alloc (own_lo (lo' := lo) ho4 hlow) (.cells #[.slice a4 m4 c4] 32)
    obtain ⟨hA6, hF6⟩ := hA4.give hr4 (fun i hi => apart_symm (apart_newer (HAH.out.rows.row i hi) ho4 (Nat.le_refl _))) (apart_newer HAH.out.now ho4 (Nat.le_refl _)) ho6 hg6 hs6 (fun e => by have h : w.heap.size ≤ bo := (own_block ho4 e).1; omega) (fun e => by have h : w.heap.size ≤ bn := (own_block ho4 e).1; omega)
    have hT := Lib.hid (ArrTo.mk ⟨_, hA6⟩ ((Fr2.of_below (below_alloc hb5 (.cells #[.slice a4 m4 c4] 32))).trans hF6 (SN.refl _ _) (SN.refl _ _)) (SN.mono (SN.of hs6) (by simp; omega)) (SN.refl _ _))
    clear hA4 hr4 hA6 hF6 ho6 hg6 hs6 ho4
    go_wp2
    refine bodyPost_ret (results_none rfl _ _ _) rfl ?_
    exact ⟨rfl, _, _, hT.out⟩

theorem intsAt_own {w : World} {lo g c : Nat} {zs : List Int} (h : w.ownsRow lo 2 1 (.slice (some ⟨g, 0, none⟩) zs.length c) zs.length (zs.map (Value.int .i64))) (hl : zs.length ≤ 1048576) : IntsAt w (.slice (some ⟨g, 0, none⟩) zs.length c) zs (some ⟨g, 0, none⟩) g 0 c :=
  ⟨rfl, fun _ => rfl, fun k hk => by rw [Nat.zero_add, h.cellAt k (by omega)]; simp [List.getD_eq_getElem?_getD, hk], by omega⟩

/-- the call of itself -/
theorem arrCall {n : Nat} (IH : ArrIs n) {w7 w9 : World} {lo bo bn bf g8 c8 k : Nat} {ov nv : Value} {rs : List Value} {zss zss' : List (List Int)} {N rest : List Int} {z : Int} (hA : ArrAt w7 lo bo bn ov rs zss nv (N ++ [z])) (hb : Below w7.heap.size w7 w9)
    (ho : w9.ownsRow w7.heap.size 2 1 (.slice (some ⟨g8, 0, none⟩) (rest.eraseIdx k).length c8) (rest.eraseIdx k).length ((rest.eraseIdx k).map (Value.int .i64))) (hN : N.length + (n + 1) ≤ 3) (hl : (rest.eraseIdx k).length = n) (hz : zss.length + (arr n (rest.eraseIdx k)).length ≤ 10000)
    (hf : w7.cell? ⟨bf, 0, none⟩ = some (arrFn bo bn bf)) (hlf : some bf ≠ ov.ownBlock) (hlf2 : some bf ≠ nv.ownBlock) (hfo : bf ≠ bo) (hfn : bf ≠ bn) (hlow : lo ≤ w7.heap.size) (hs : zss ++ (arr n (rest.eraseIdx k)).map ((N ++ [z]) ++ ·) = zss') (W : World) (hW : Below w9.heap.size w9 W) :
    Calls Try.prog 146 #[.slice (some ⟨g8, 0, none⟩) (rest.eraseIdx k).length c8, .pointer (some ⟨bo, 0, none⟩), .pointer (some ⟨bn, 0, none⟩), .pointer (some ⟨bf, 0, none⟩)] W
      fun e w' => e = .returned (.tuple #[]) ∧ ∃ ov' nv', ArrTo w7 w' lo bo bn ov.ownBlock nv.ownBlock zss' (N ++ [z]) ov' nv' := by
  have hbW : Below w7.heap.size w7 W := hb.trans (hW.mono hb.size)
  have hg := own_block ho rfl
  have hg2 : w7.heap.size ≤ g8 := hg.1
  have hbo : bo < w7.heap.size := block_lt_of_cell hA.co
  have hbn : bn < w7.heap.size := block_lt_of_cell hA.cn
  refine (IH (rest.eraseIdx k) _ (some ⟨g8, 0, none⟩) g8 0 c8 zss (N ++ [z]) ov nv rs lo bo bn bf W hl (by rw [List.length_append, List.length_singleton]; omega) hz (intsAt_own (own_below ho hW) (by omega)) (fun _ => ⟨by omega, by omega, fun e => ?_, fun e => ?_⟩) (hA.below hbW) (below_cell hbW hf) hlf hlf2 hfo hfn).mono ?_
  · have h : g8 < w7.heap.size := (own_block hA.rows.outer e.symm).2
    omega
  · have h : g8 < w7.heap.size := (own_block hA.now e.symm).2
    omega
  · rintro e w' ⟨rfl, ov', nv', hT⟩
    rw [hs] at hT
    exact ⟨rfl, ov', nv', ((ArrTo.refl hA).below hbW).trans hT⟩

set_option maxRecDepth 100000 in
set_option maxHeartbeats 4000000 in
theorem arrFrom_succ (n : Nat) (IH : ArrIs n) : ArrIs (n + 1) := by
  intro rest v ao p o c zss N ov nv rs lo bo bn bf w hr hN hz H1 hp HA hf hlf hlf2 hfo hfn
  have hv1 := H1.val
  subst hv1
  have hl3 : rest.length ≤ 3 := by omega
  have A1 := H1.adr
  have hpp := hp (by omega)
  have hbfw : bf < w.heap.size := block_lt_of_cell hf
  have HIH := Lib.hid IH
  have HZ := Lib.hid hz
  have HH1 := Lib.hid H1
  have HPP := Lib.hid hpp
  have HR := Lib.hid hr
  have HNN := Lib.hid hN
  have HF := Lib.hid hf
  have hpw : p < w.heap.size := block_lt_of_cell (H1.cell 0 (by omega))
  have HNP : Hid (0 < rest.length) := by unfold Hid; omega
  have HT0 : Hid (ArrTo w w lo bo bn ov.ownBlock nv.ownBlock (zss ++ (arrTo n rest 0).map (N ++ ·)) N ov nv) := by
    have h := ArrTo.refl HA
    unfold Hid
    rw [show zss ++ (arrTo n rest 0).map (N ++ ·) = zss by simp [arrTo]]
    exact h
  have hbfo : Hid (some bf ≠ ov.ownBlock) := hlf
  have hbfn : Hid (some bf ≠ nv.ownBlock) := hlf2
  have HALL : Hid (arr (n + 1) rest = arrTo n rest rest.length) := (arrTo_all n rest).symm
  have hne0 : ((rest.length : Int) == 0) = false := by rw [beq_eq_false_iff_ne]; omega
  clear IH hz H1 hp hpp hr hN HA hf hlf hlf2
  go_enter Try.func146, Try.ntmps146
  go_wp2
  go_loopw [17] (fun i wr => ∃ k : Nat, k ≤ rest.length ∧ i = .int .i64 k ∧ ∃ ov' nv', Hid (ArrTo w wr lo bo bn ov.ownBlock nv.ownBlock (zss ++ (arrTo n rest k).map (N ++ ·)) N ov' nv')) (fun i _ => rest.length - (intOf i).toNat)
  case atStart => exact ⟨0, Nat.zero_le _, rfl, ov, nv, HT0.out⟩
  case round =>
    obtain ⟨k, hk, rfl, ov1, nv1, HT⟩ := hrel
    by_cases hlt : k < rest.length
    · have hR1 := fr_intsAt HT.out.fr HH1.out (fun _ => HPP.out)
      have hp1 : p ≠ bo ∧ p ≠ bn ∧ some p ≠ ov1.ownBlock ∧ some p ≠ nv1.ownBlock := ⟨HPP.out.1, HPP.out.2.1, HT.out.so.ne hpw HPP.out.2.2.1, HT.out.sn.ne hpw HPP.out.2.2.2⟩
      have HR1 := Lib.hid hR1
      have HP1 := Lib.hid hp1
      have i1 := idx_of Try.underlying32 size1_int (c := c) A1 hlt .i64
      obtain ⟨z, hz, d⟩ := hR1.at hlt
      have hlp := block_lt_of_cell d
      have HZZ := Lib.hid hz
      clear hz hR1 hp1
      have HHY := Lib.hid (fun (j : Nat) (hj : j < rest.length) => HR1.out.at hj)
      by_cases hsk : 0 < k ∧ rest.getD k 0 = rest.getD (k - 1) 0
      · obtain ⟨j, hj⟩ : ∃ j, j + 1 = k := ⟨k - 1, by omega⟩
        have hjl : j < rest.length := by omega
        have i2 := idx_of Try.underlying32 size1_int (c := c) A1 hjl .i64
        obtain ⟨y, hy, d2⟩ := HHY.out j hjl
        have hsub : IntKind.i64.wrap ((k : Int) - 1) = (j : Int) := by rw [IntWalk.i64_in _ (by omega)]; omega
        have hkp : (0 : Int) < (k : Int) := by omega
        have hlp2 := block_lt_of_cell d2
        have HSK : Hid (arrTo n rest (k + 1) = arrTo n rest k) := arrTo_skip hsk
        have hbe : (z == y) = true := by
          have h := hsk.2
          rw [HZZ.out, show k - 1 = j by omega, hy] at h
          simp [h]
        clear hy hj hsk
        go_wp2
        go_roundw
        case rel => exact ⟨k + 1, by omega, by go_num, ov1, nv1, by rw [HSK.out]; exact HT.out⟩
        case measure => simp [intOf]; omega
      · obtain ⟨rs1, hA⟩ := HT.out.at_
        have cn := hA.cn
        have fn := hA.fn
        have hlow1 := hA.low
        have lcn : bn < wr.heap.size := block_lt_of_cell cn
        obtain ⟨an, mn, cn2, rfl, HMn⟩ := own_shape hA.now
        have HAH := Lib.hid hA
        have hNl := HNN.out
        have hlenE : Hid ((rest.eraseIdx k).length = n) := by unfold Hid; rw [List.length_eraseIdx, if_pos hlt]; have := HR.out; omega
        have HSN : Hid ((zss ++ (arrTo n rest k).map (N ++ ·)) ++ (arr n (rest.eraseIdx k)).map ((N ++ [z]) ++ ·) = zss ++ (arrTo n rest (k + 1)).map (N ++ ·)) := arr_snoc n rest N zss k z HZZ.out hsk
        have HSZ : Hid ((zss ++ (arrTo n rest k).map (N ++ ·)).length + (arr n (rest.eraseIdx k)).length ≤ 10000) := by
          have h1 := congrArg List.length HSN.out
          have h2 := arrTo_mono n rest (j := k + 1) (k := rest.length) (by omega)
          have h3 := HZ.out
          rw [HALL.out] at h3
          rw [List.length_append, List.length_map, List.length_append, List.length_map] at h1
          unfold Hid
          rw [List.length_append, List.length_map]
          simp only [List.length_append, List.length_map] at h1
          omega
        have hcase : (¬ (0 : Int) < (k : Int)) ∨ ∃ (j : Nat) (y : Int), (∀ W, (Instr.indexAt 32 (.slice ao rest.length c) (.int .i64 (j : Int))).run Try.prog W = .ok (.pointer (some ⟨p, o + j, none⟩)) W) ∧ wr.cell? ⟨p, o + j, none⟩ = some (.int .i64 y) ∧ IntKind.i64.wrap ((k : Int) - 1) = (j : Int) ∧ (0 : Int) < (k : Int) ∧ (z == y) = false := by
          by_cases h0 : k = 0
          · exact .inl (by omega)
          · obtain ⟨j, hj⟩ : ∃ j, j + 1 = k := ⟨k - 1, by omega⟩
            have hjl : j < rest.length := by omega
            obtain ⟨y, hy, d2⟩ := HHY.out j hjl
            refine .inr ⟨j, y, idx_of Try.underlying32 size1_int (c := c) A1 hjl .i64, d2, by rw [IntWalk.i64_in _ (by omega)]; omega, by omega, ?_⟩
            rw [beq_eq_false_iff_ne]
            intro e
            exact hsk ⟨by omega, by rw [HZZ.out, show k - 1 = j by omega, hy, e]⟩
        clear hA hsk
        rcases hcase with hk0 | ⟨j, y, i2, d2, hsub, hkp, hbe⟩
        all_goals
          go_wp2_with (at_builtin; refine wpList_push elem_int rfl (.tmp 33) (.tmp 35) rfl lo (v := .slice an mn cn2) rfl HAH.out.now _ rfl rfl (by unfold maxLen; omega) (by omega) HAH.out.low ?_; intro v6 w6 ho6 hg6 hs6; obtain ⟨a6, m6, c6, rfl, HM6⟩ := own_shape ho6; have rc1 := gcell hg6 HAH.out.bn2 cn; have rc2 := gfrozen hg6 HAH.out.bn2 cn fn; have lrc : bn < w6.heap.size := block_lt_of_cell rc1)
          obtain ⟨hA6, hF6⟩ := HAH.out.push ho6 hg6 hs6
          have hT6 : ArrTo wr (w6.setCell ⟨bn, 0, none⟩ (.slice a6 m6 c6)) lo bo bn ov1.ownBlock (Value.slice an mn cn2).ownBlock (zss ++ (arrTo n rest k).map (N ++ ·)) (N ++ [z]) ov1 (.slice a6 m6 c6) := ⟨⟨_, hA6⟩, hF6, SN.refl _ _, SN.of hs6⟩
          clear rc1 rc2 lrc ho6 hg6 hs6
          generalize hw7 : w6.setCell ⟨bn, 0, none⟩ (.slice a6 m6 c6) = w7 at hA6 hF6 hT6 ⊢
          have hbw := Below.refl w7.heap.size w7
          have hbd := hbw.drew
          have hR7 := fr_intsAt hF6 HR1.out (fun _ => HP1.out)
          have HCL := Lib.hid (fun W (hW : Below w7.heap.size w7 W) => cloneInts_any _ rest W (hR7.shut.kept hW) (by omega))
          have hT7 := HT.out.trans hT6
          have k7 := hT7.fr.cell HF.out hfo hfn hbfo.out hbfn.out
          have lk7 : bf < w7.heap.size := block_lt_of_cell k7
          have hsum : IntKind.i64.wrap ((k : Int) + 1) = (k : Int) + 1 := IntWalk.i64_in _ (by omega)
          have HA7 := Lib.hid hA6
          have HT7 := Lib.hid hT7
          have hlow7 := hA6.low
          clear hA6 hF6 hT6 hT7 hR7 hw7
          go_region_law
            (first
              | (go_simp; go_at_call 101; (with_reducible refine (HCL.out _ (by assumption)).mono ?_); rintro e w8 ⟨v8, rfl, ho8, hb8⟩; obtain ⟨g8, c8, rfl, hc8⟩ := own_some ho8 HNP.out; have hb8' : Below w7.heap.size w7 w8 := (by first | exact hb8 | exact below_trans ((Below.refl w7.heap.size w7).drew) hb8); have ho8' : w8.ownsRow w7.heap.size 2 1 (.slice (some ⟨g8, 0, none⟩) rest.length c8) rest.length (rest.map (Value.int .i64)) := ho8; have k8 := below_cell hb8' k7; have lk8 : bf < w8.heap.size := block_lt_of_cell k8)
              | (go_simp; go_at_call 147; (with_reducible refine (deleteAt_any g8 c8 k w7.heap.size _ rest _ (by first | exact ho8' | exact own_drew ho8') (by omega) hlt rfl).mono ?_); rintro e w9 ⟨rfl, ho9, hb9⟩; have hb9' : Below w7.heap.size w7 w9 := (by first | exact hb8'.trans hb9 | exact (hb8'.drew).trans hb9); have k9 := below_cell hb9' k7; have lk9 : bf < w9.heap.size := block_lt_of_cell k9)
              | (go_simp; go_at_call 146; (with_reducible refine (arrCall HIH.out HA7.out hb9' ho9 HNN.out hlenE.out HSZ.out k7 (HT7.out.so.ne hbfw hbfo.out) (HT7.out.sn.ne hbfw hbfn.out) hfo hfn hlow7 HSN.out _ (by first | exact Below.refl _ _ | exact (Below.refl _ _).drew)).mono ?_); rintro e w10 ⟨rfl, ov10, nv10, hT10⟩))
          all_goals
            have hT11 := HT7.out.trans hT10
            obtain ⟨rs10, hA10⟩ := hT10.at_
            have hnow := hA10.now
            have hnl : (N ++ [z]).length = N.length + 1 := by simp
            rw [hnl] at hnow
            obtain ⟨g10, c10, rfl, hc10⟩ := own_some hnow (by omega)
            have cn10 := hA10.cn
            have fn10 := hA10.fn
            have lcn10 : bn < w10.heap.size := block_lt_of_cell cn10
            have hsub1 : IntKind.i64.wrap (((N.length + 1 : Nat) : Int) - 1) = (N.length : Int) := by rw [IntWalk.i64_in _ (by omega)]; omega
            have hsub2 : IntKind.i64.wrap ((N.length : Int) + 1 - 1) = (N.length : Int) := by rw [IntWalk.i64_in _ (by omega)]; omega
            have hsub3 : IntKind.i64.wrap (N.length : Int) = (N.length : Int) := IntWalk.i64_in _ (by omega)
            have hcN : N.length ≤ c10 := by omega
            obtain ⟨hA12, hF12⟩ := ArrAt.pop hA10 rfl
            have hT12 := Lib.hid (hT11.trans (ArrTo.mk ⟨_, hA12⟩ hF12 (SN.refl _ _) (SN.refl _ _)))
            clear hA12 hF12 hT11 hA10 hT10 hnow ho8 ho8' ho9 hnl
            go_wp2
            go_roundw
            case rel => exact ⟨k + 1, by omega, by go_num, _, _, hT12.out⟩
            case measure => simp [intOf]; omega
    · obtain rfl : k = rest.length := by omega
      go_wp2
      go_end0
      rw [HALL.out]
      exact ⟨rfl, _, _, HT.out⟩

theorem arrFrom_any : ∀ n, ArrIs n
  | 0 => arrFrom_zero
  | n + 1 => arrFrom_succ n (arrFrom_any n)

end Go.Proofs.Ytlgnbbfhejjodaa
