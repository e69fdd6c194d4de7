/- The fillings of a partial automaton's gaps, of the reference. -/
import Derived.Test.YtfdacodbiodiaaaGreatDoorFill
import Derived.Deep.RegionHeld3
import Derived.Deep.DeepCutAuto
namespace Go.Proofs.YtfdacodbiodiaaaGreatDoor
set_option linter.unusedVariables false
set_option linter.unusedSimpArgs false
open Go.ChangeShapes Go.WideShapes Go.ChangeAt Go.RowKit

theorem l00Own_pos (v : Value) (xs : List Int) (w : World) (h1 : Ints w v xs) (h0 : 0 < xs.length) (hl : xs.length ≤ 1048576) : Calls Tryz.prog 82 #[v] w (NewInts xs w) := by
  obtain ⟨ao, b, o, c, H⟩ := h1.open
  have hv := H.val
  subst hv
  obtain rfl := H.adr h0
  have HE := Lib.hid (own_empty w w.heap.size (Nat.le_refl _) 2)
  have HC : Hid (∀ j u, (xs.map (Value.int .i64))[j]? = some u → w.cell? ((⟨b, o, none⟩ : Addr).add j) = some u) := by
    intro j u hj
    have hjl : j < xs.length := by have := (List.getElem?_eq_some_iff.1 hj).1; simpa using this
    rw [add_plain', H.cell j hjl]
    simp [List.getD_eq_getElem?_getD, hjl] at hj ⊢
    exact hj
  clear h1 H h0
  go_enter Tryz.func82, Tryz.ntmps82
  go_wp2_with (at_builtin; refine wpList_appendE elem_int rfl (.tmp 3) (.tmp 4) rfl w.heap.size rfl HE.out ⟨b, o, none⟩ xs.length c (xs.map (Value.int .i64)) rfl (by simp) (fun j u hj => Lib.cell?_alloc_some _ (HC.out j u hj)) (fun u hu => by obtain ⟨x, _, rfl⟩ := List.mem_map.1 hu; rfl) (by unfold maxLen; omega) (by omega) (by simp) ?_; intro v' w1 hown hgr hs)
  go_wp2
  go_ret
  refine ⟨v', rfl, by simpa using hown, ?_⟩
  exact (below_alloc (Below.refl _ w) _).grown hgr (by simp) (fun g hg => (own_block HE.out hg).1)

set_option maxRecDepth 100000 in
theorem l06OwnRows_pos (v : Value) (xss : List (List Int)) (w : World) (h1 : Rows2 w v xss) (hl : xss.length ≤ 1000) (hp : ∀ k, k < xss.length → 0 < (xss.getD k []).length ∧ (xss.getD k []).length ≤ 1000) :
    Calls Tryz.prog 69 #[v] w (NewRows xss w) := by
  obtain ⟨ao1, p1, o1, c1, H1⟩ := h1.open
  have hv := H1.val
  subst hv
  have A1 := H1.adr
  have HROW := Lib.hid (fun k (hk : k < xss.length) => H1.cell k hk)
  have HP := Lib.hid hp
  have HE := Lib.hid (ownRows_empty w w.heap.size (Nat.le_refl _))
  have hbe : Below w.heap.size w (w.alloc (.cells #[] 45)) := below_alloc (Below.refl _ _) _
  have hm := H1.len
  clear h1 H1 hp
  go_enter Tryz.func69, Tryz.ntmps69
  go_wp2
  go_loopw [3, 4] (fun u i wr => ∃ k : Nat, k ≤ xss.length ∧ i = .int .i64 k ∧ Hid (∃ rs : List Value, OwnRows wr w.heap.size u rs (xss.take k)) ∧ Below w.heap.size w wr) (fun _ i _ => xss.length - (intOf i).toNat)
  case atStart => exact ⟨0, Nat.zero_le _, rfl, ⟨[], HE.out⟩, hbe⟩
  case round =>
    obtain ⟨k, hk, rfl, HT, hb⟩ := hrel
    obtain ⟨rs, hT⟩ := HT.out
    obtain ⟨au, mu, cu, rfl, HMu⟩ := own_shape hT.outer
    have HT2 := Lib.hid hT
    clear HT hT
    by_cases hlt : k < xss.length
    · have i1 := idx_of Tryz.underlying24 size1_ints (c := c1) A1 hlt .i64
      obtain ⟨r1, d2, hr1⟩ := HROW.out k hlt
      have e2 := below_cell hb d2
      have HC := Lib.hid (l00Own_pos r1 _ wr (hr1.kept hb) (HP.out k hlt).1 (by have := (HP.out k hlt).2; omega))
      have hlen : (xss.take k).length = k := by rw [List.length_take]; omega
      have HLEN := Lib.hid hlen
      obtain ⟨yk, hyk⟩ : ∃ yk, yk = xss.getD k [] := ⟨_, rfl⟩
      rw [← hyk] at HC
      have HNX : Hid (xss.take k ++ [yk] = xss.take (k + 1)) := by unfold Hid; rw [hyk, List.take_succ_eq_append_getElem hlt]; simp [List.getD_eq_getElem?_getD, hlt]
      clear hyk hlen hr1 d2
      go_wp2_with fail
      refine HC.out.mono ?_
      rintro e w4 ⟨v4, rfl, ho4, hb4⟩
      obtain ⟨a4, m4, c4, rfl, HM4⟩ := own_shape ho4
      have HT4 := Lib.hid (HT2.out.below hb4)
      have HO4 := Lib.hid ho4
      have HAP := Lib.hid (HT2.out.apart_new ho4)
      have hbw := below_trans hb hb4
      have hlow := hb.size
      have hou := HT4.out.outer
      rw [HLEN.out] at hou
      have HOU := Lib.hid hou
      clear ho4 hou HC
      go_wp2_with (at_builtin; refine wpList_push elem_ints rfl (.tmp 12) (.tmp 18) rfl w.heap.size rfl HOU.out _ rfl rfl (by unfold maxLen; omega) (by omega) hbw.size ?_; intro v6 w6 ho6 hg6 hs6)
      have hT6 := HT4.out.pushed hg6 (by rw [HLEN.out]; exact ho6) HO4.out hlow HAP.out
      rw [HNX.out] at hT6
      have HT6 := Lib.hid hT6
      have hb6 := Below.grown hbw hg6 hbw.size (fun g hg => (own_block HOU.out hg).1)
      clear ho6 hg6 hs6 hT6
      go_wp2
      go_roundw
      case rel => exact ⟨k + 1, by omega, by go_num, ⟨_, HT6.out⟩, hb6⟩
      case measure => simp [intOf]; omega
    · obtain rfl : k = xss.length := by omega
      have hT3 := HT2.out
      rw [List.take_length] at hT3
      have HT3 := Lib.hid hT3
      clear hT3
      go_wp2
      go_ret
      exact ⟨_, rs, rfl, HT3.out, hb⟩

set_option maxRecDepth 100000 in
set_option maxHeartbeats 4000000 in
theorem l04Fill_any (b : Nat) (st : Int) (v : Value) (xss : List (List Int)) (n : Nat) (u : Value) (zs : List Int) (w : World) (d0 : w.cell? ⟨b, 0, none⟩ = some (.int .i64 st)) (d1 : w.cell? ⟨b, 1, none⟩ = some v) (h1 : Rows2 w v xss) (hg : GoodP st n xss) (h2 : Ints w u zs) (hl : zs.length = (gapsOf xss).length) :
    Calls Tryz.prog 48 #[.pointer (some ⟨b, 0, none⟩), u] w (NewAuto st (fillTo xss zs (gapsOf xss).length) w) := by
  obtain ⟨ao1, m1, c1, rfl, HM1⟩ := h1.shape
  obtain ⟨ao3, p3, o3, c3, H3⟩ := h2.open
  have hv3 := H3.val
  subst hv3
  have hm3 := H3.len
  have A3 := Lib.hid H3.adr
  have HZC := Lib.hid (fun k (hk : k < zs.length) => H3.cell k hk)
  have hl1 : 0 < xss.length := by have := hg.len1; omega
  have hl3 := hg.len3
  have hn10 := hg.hi
  have hn1 := hg.lo
  have HGP := Lib.hid (fun W (hW : Below w.heap.size w W) => l04Gaps_any b st _ xss n W (below_cell hW d0) (below_cell hW d1) (h1.kept hW) hg)
  have HOR := Lib.hid (fun W (hW : Below w.heap.size w W) => l06OwnRows_pos _ xss W (h1.kept hW) (by omega) (fun k hk => by rw [hg.row hk]; omega))
  have HG := Lib.hid hg
  have HLZ := Lib.hid hl
  obtain ⟨W1, hW1⟩ : ∃ W1, W1 = w.alloc (.cells #[.int .i64 0, .slice none 0 0] 47) := ⟨_, rfl⟩
  have bx : Below w.heap.size w W1 := by rw [hW1]; exact below_alloc (Below.refl _ _) _
  have x2 : W1.cell? ⟨w.heap.size, 0, none⟩ = some (.int .i64 0) := by rw [hW1]; go_simp
  have x3 : W1.cell? ⟨w.heap.size, 1, none⟩ = some (.slice none 0 0) := by rw [hW1]; go_simp
  have y2 : W1.frozen? ⟨w.heap.size, 0, none⟩ = false := by rw [hW1]; go_simp
  have y3 : W1.frozen? ⟨w.heap.size, 1, none⟩ = false := by rw [hW1]; go_simp
  have hs1 : W1.heap.size = w.heap.size + 1 := by rw [hW1]; simp
  have HS1 := Lib.hid hs1
  subst hW1
  clear h1 hg h2 H3 hl hs1
  go_enter Tryz.func48, Tryz.ntmps48
  go_wp2_with fail
  refine (HGP.out _ bx).mono ?_
  rintro e w5 ⟨vg, rfl, hog, hb5⟩
  obtain ⟨ga, gb, gc, hGI⟩ := gaps_in hog
  have hgv := hGI.val
  subst hgv
  have HGA := Lib.hid hGI.adr
  have HGC := Lib.hid (fun q (hq : q < (gapsOf xss).length) => hGI.cell (q * 2) (by omega))
  have HGD := Lib.hid (fun q (hq : q < (gapsOf xss).length) => hGI.cell (q * 2 + 1) (by omega))
  have bw5 := below_trans bx hb5
  have e0 := below_cell bw5 d0
  have e1 := below_cell bw5 d1
  have lb0 := block_lt_of_cell e0
  have lx2 : w.heap.size < w5.heap.size := block_lt_of_cell (below_cell hb5 x2)
  replace y2 := (hb5.frozen (p := ⟨w.heap.size, 0, none⟩) (by show w.heap.size < _; rw [HS1.out]; omega)).trans y2
  replace y3 := (hb5.frozen (p := ⟨w.heap.size, 1, none⟩) (by show w.heap.size < _; rw [HS1.out]; omega)).trans y3
  replace x2 := below_cell hb5 x2
  replace x3 := below_cell hb5 x3
  clear hog hGI bx HGP
  go_wp2
  go_cut [6] (fun sa wx => ∃ (ob og oc : Nat) (rs : List Value), sa = .pointer (some ⟨ob, 0, none⟩) ∧ wx.cell? ⟨ob, 0, none⟩ = some (.int .i64 st) ∧ wx.cell? ⟨ob, 1, none⟩ = some (.slice (some ⟨og, 0, none⟩) xss.length oc) ∧ OwnRows wx w5.heap.size (.slice (some ⟨og, 0, none⟩) xss.length oc) rs xss ∧ (∀ j, j < rs.length → some ob ≠ (rs.getD j undef).ownBlock) ∧ Below w5.heap.size w5 wx)
  case first =>
    go_region_held3 (fun w' => Below w5.heap.size w5 w' ∧ ∀ b o, b < w5.heap.size → w'.cell? ⟨b, o, none⟩ = w5.cell? ⟨b, o, none⟩) (first | exact held_start | assumption | exact held_nx (by assumption) (by assumption) | exact held_alloc (by assumption) | exact held_set (held_set (by assumption) (by first | omega | (simp; done) | (simp; omega))) (by first | omega | (simp; done) | (simp; omega)) | exact held_set (by assumption) (by first | omega | (simp; done) | (simp; omega)) | exact held_with (by repeat (first | exact Below.refl _ _ | refine Below.drew ?_ | refine below_alloc ?_ _ | refine below_trans ?_ (by assumption))))
      (first | (go_simp; go_at_call 69; refine (HOR.out _ (below_trans bw5 (And.left (by assumption)))).mono ?_; rintro e w6 ⟨v6, rs6, rfl, ho6, hb6⟩; obtain ⟨og, oc, rfl, _⟩ := own_some ho6.outer hl1; obtain ⟨hct, hft⟩ := bcell hb6; have hzt := hb6.size; (try simp at hzt); (try have : w5.heap.size < w6.heap.size := by omega)))
    all_goals
      rename Below w5.heap.size w5 _ ∧ _ => hS
      go_wp2_with fail
      go_meet
      refine ⟨_, og, oc, rs6, rfl, ?_, ?_, ?_, ?_, hS.1⟩
      · go_simp
      · go_simp
      · first | exact (ho6.alloc _).mono (by first | omega | (simp; done) | (simp; omega)) | exact ((ho6.set_below (by first | omega | (simp; done) | (simp; omega)) _ _).set_below (by first | omega | (simp; done) | (simp; omega)) _ _).mono (by first | omega | (simp; done) | (simp; omega))
      · intro j hj e
        have h := own_block (ho6.row j (by have := ho6.len; omega)) e.symm
        first | omega | (simp at h; omega)
  case rest =>
    obtain ⟨ob, og, oc, rs, rfl, k0, k1, ho, hfr, hb6⟩ := hcut
    obtain ⟨w6, hwc⟩ : ∃ w6, w6 = wc := ⟨_, rfl⟩
    subst hwc
    have HFR := Lib.hid hfr
    have HGI := Lib.hid (gapInts_get (gapsOf xss))
    have HGM := Lib.hid (fun q (hq : q < (gapsOf xss).length) => gapsOf_mem HG.out hq)
    have HFS := Lib.hid (fillTo_succ xss zs)
    have HLL := Lib.hid (fillTo_len xss zs)
    have HLR : Hid (∀ q l, l < xss.length → ((fillTo xss zs q).getD l []).length = n) := fun q l hl => by rw [fillTo_row]; exact HG.out.row hl
    have HZ2 := Lib.hid (fun q (hq : q < (gapsOf xss).length) => HZC.out q (by rw [HLZ.out]; exact hq))
    have HZI := Lib.hid (fun q (hq : q < (gapsOf xss).length) => idx_of Tryz.underlying45 size1_int (c := c3) A3.out (show q < zs.length by rw [HLZ.out]; exact hq) .i64)
    have HO0 : Hid (OwnRows w6 w5.heap.size (.slice (some ⟨og, 0, none⟩) xss.length oc) rs (fillTo xss zs 0)) := ho
    have hGL : (gapsOf xss).length ≤ 40 := gapsOf_len HG.out
    generalize hfz : fillTo xss zs = FT at HFS HLL HLR HO0
    generalize hgz : gapsOf xss = GS at HGA HGC HGD HGI HGM HFS HZ2 HZI hGL
    clear A3 ho hfr
    go_wp2
    go_loopw [7] (fun i wr => ∃ q : Nat, q ≤ GS.length ∧ i = .int .i64 q ∧ Hid (OwnRows wr w5.heap.size (.slice (some ⟨og, 0, none⟩) xss.length oc) rs (FT q)) ∧ Hid (Fr rs w6 wr) ∧ Below w5.heap.size w5 wr) (fun i _ => GS.length - (intOf i).toNat)
    case atStart => exact ⟨0, Nat.zero_le _, rfl, HO0.out, Fr.refl _ _, hb6⟩
    case round =>
      obtain ⟨q, hq, rfl, HOQ, HFQ, hbq⟩ := hrel
      have c0 := HFQ.out.cell k0 HFR.out
      have c1' := HFQ.out.cell k1 HFR.out
      have lq : ob < wr.heap.size := block_lt_of_cell c1'
      by_cases hltq : q < GS.length
      · obtain ⟨l, s, hls, hl, hsn⟩ := HGM.out q hltq
        have dg0 := below_cell hbq (HGC.out q hltq)
        have dg1 := below_cell hbq (HGD.out q hltq)
        rw [(HGI.out q hltq).1, hls] at dg0
        rw [(HGI.out q hltq).2, hls] at dg1
        have ld := block_lt_of_cell dg0
        have i5 := idxG_of (c := gc) HGA.out hltq .i64
        have i6 := HZI.out q hltq
        have hbwq : Below w.heap.size w wr := below_trans bw5 hbq
        have d2 := below_cell hbwq (HZ2.out q hltq)
        have hll := HLL.out q
        have hrow := HOQ.out.row l (by rw [hll]; exact hl)
        rw [HLR.out q l hl] at hrow
        obtain ⟨rg, rc, hrv, _⟩ := own_some hrow hn1
        have hol := HOQ.out.outer
        rw [hll] at hol
        have hrs := hol.1
        have d3 : wr.cell? ⟨og, l, none⟩ = some (.slice (some ⟨rg, 0, none⟩) n rc) := by
          rw [hol.cellAt l (by omega), ← hrv]
          simp [List.getD_eq_getElem?_getD, show l < rs.length by omega]
        have hrow2 := hrow
        rw [hrv] at hrow2
        have d4 := hrow2.cellAt s (by omega)
        have f4 := hrow2.frozenAt s
        have hx1 := hrow2.1
        have hsome : (wr.cell? ⟨rg, s, none⟩).isSome = true := by rw [d4]; exact Option.isSome_iff_exists.2 ⟨_, List.getElem?_eq_getElem (by omega)⟩
        obtain ⟨u4, hu4⟩ := Option.isSome_iff_exists.1 hsome
        have log := block_lt_of_cell d3
        have lrg := block_lt_of_cell hu4
        have lp3 := block_lt_of_cell d2
        have i7 := idx_of Tryz.underlying24 size1_ints (ao := some ⟨og, 0, none⟩) (b := og) (o := 0) (n := xss.length) (c := oc) (fun _ => rfl) hl .i64
        have i8 := idx_of Tryz.underlying45 size1_int (ao := some ⟨rg, 0, none⟩) (b := rg) (o := 0) (n := n) (c := rc) (fun _ => rfl) hsn .i64
        rw [Nat.zero_add] at i7 i8
        obtain ⟨zq, hzq⟩ : ∃ zq, zq = zs.getD q 0 := ⟨_, rfl⟩
        rw [← hzq] at d2
        have HROW2 := Lib.hid hrow2
        have HRV := Lib.hid hrv
        have HLS := Lib.hid hls
        have HZQ := Lib.hid hzq
        have HRSL : Hid (l < rs.length) := by unfold Hid; omega
        have lrg2 : w5.heap.size ≤ rg := (own_block HROW2.out rfl).1
        clear hsome d4 hrow hrow2 hrv hls hzq hol hll hrs hx1
        go_wp2
        go_region
        all_goals
          have hst := HROW2.out.stored s (.int .i64 zq)
          have hnw0 := HOQ.out.turned (k := l) (by rw [HLL.out]; exact hl) (ys := ((FT q).getD l []).set s zq) (by simp) (by rw [HRV.out]; exact hst.2) (by rw [HRV.out, List.length_set, HLR.out q l hl, List.map_set]; exact hst.1)
          have hft : FT (q + 1) = (FT q).set l (((FT q).getD l []).set s zq) := by rw [HFS.out q, HLS.out, HZQ.out]; unfold putAt; simp
          rw [← hft] at hnw0
          have hfr6 := HFQ.out.grown (j := l) HRSL.out (by rw [HRV.out]; exact hst.2)
          have hb7 := hbq.setCell (p := ⟨rg, s, none⟩) lrg2 (.int .i64 zq)
          have HNEW := Lib.hid (ownRows_drew hnw0)
          have HFR6 := Lib.hid (hfr6.below ((Below.refl _ _).drew))
          have HB7 := Lib.hid hb7.drew
          clear hst hnw0 hft hfr6 hb7
          go_wp2
          go_roundw
          case rel => exact ⟨q + 1, by omega, by go_num, HNEW.out, HFR6.out, HB7.out⟩
          case measure => simp [intOf]; omega
      · obtain rfl : q = GS.length := by omega
        have g2 := below_cell hbq x2
        have g3 := below_cell hbq x3
        have z2 := (hbq.frozen (p := ⟨w.heap.size, 0, none⟩) lx2).trans y2
        have z3 := (hbq.frozen (p := ⟨w.heap.size, 1, none⟩) lx2).trans y3
        have HBW := Lib.hid (below_trans bw5 hbq)
        have l2 := block_lt_of_cell g2
        subst hfz
        subst hgz
        go_wp2
        refine bodyPost_ret (v := .agg #[.int .i64 st, .slice (some ⟨og, 0, none⟩) xss.length oc]) (by simp [results, Tryz.results48, go_sem, g2, g3, l2]) rfl ⟨_, rs, rfl, ?_, ?_⟩
        · refine OwnRows.mono (lo := w5.heap.size) ?_ (by omega)
          repeat (first | exact HOQ.out | refine OwnRows.set_below ?_ (by first | omega | simp) _ _)
        · repeat (first | exact HBW.out | refine below_set ?_ (by first | omega | simp) _ _)

end Go.Proofs.YtfdacodbiodiaaaGreatDoor
