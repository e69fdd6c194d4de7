/- The fillings of a partial automaton's gaps, of the program. -/
import Derived.Test.YtfdacodbiodiaaaGreatDoorGaps
import Derived.Test.YtfdacodbiodiaaaGreatDoorBits
import Derived.Deep.AppendLies
import Derived.Deep.RegionLaw
import Derived.Test.YtfdacodbiodiaaaGreatDoorFr
namespace Go.Proofs.YtfdacodbiodiaaaGreatDoor
set_option linter.unusedVariables false
set_option linter.unusedSimpArgs false
open Go.ChangeShapes Go.WideShapes Go.ChangeAt Go.RowKit

/-- a number is put at a place of the rows; so at the first k gaps -/
def putAt (rows : List (List Int)) (l s : Nat) (z : Int) : List (List Int) := rows.set l ((rows.getD l []).set s z)
def fillTo (xss : List (List Int)) (zs : List Int) (k : Nat) : List (List Int) := (List.range k).foldl (fun rows i => putAt rows ((gapsOf xss).getD i (0, 0)).1.toNat ((gapsOf xss).getD i (0, 0)).2.toNat (zs.getD i 0)) xss
theorem fillTo_succ (xss : List (List Int)) (zs : List Int) (k : Nat) : fillTo xss zs (k + 1) = putAt (fillTo xss zs k) ((gapsOf xss).getD k (0, 0)).1.toNat ((gapsOf xss).getD k (0, 0)).2.toNat (zs.getD k 0) := by
  simp [fillTo, List.range_succ, List.foldl_append]

theorem gapInts_get (gs : List (Int × Int)) : ∀ q, q < gs.length → (gapInts gs).getD (q * 2) 0 = (gs.getD q (0, 0)).1 ∧ (gapInts gs).getD (q * 2 + 1) 0 = (gs.getD q (0, 0)).2 := by
  induction gs with
  | nil => intro q hq; simp at hq
  | cons g gs ih =>
    intro q hq
    have e : gapInts (g :: gs) = g.1 :: g.2 :: gapInts gs := rfl
    rw [e]
    cases q with
    | zero => exact ⟨rfl, rfl⟩
    | succ q =>
      have := ih q (by simpa using hq)
      rw [show (q + 1) * 2 = q * 2 + 1 + 1 by omega]
      exact this
theorem gapsOf_mem {st : Int} {n : Nat} {xss : List (List Int)} (h : GoodP st n xss) {q : Nat} (hq : q < (gapsOf xss).length) : ∃ l s : Nat, (gapsOf xss).getD q (0, 0) = ((l : Int), (s : Int)) ∧ l < xss.length ∧ s < n := by
  have hm : (gapsOf xss).getD q (0, 0) ∈ gapsOf xss := by rw [List.getD_eq_getElem?_getD, List.getElem?_eq_getElem hq]; exact List.getElem_mem hq
  unfold gapsOf gapsTo at hm
  rw [List.mem_flatten] at hm
  obtain ⟨L, hL, hx⟩ := hm
  rw [List.mem_map] at hL
  obtain ⟨l, hl, rfl⟩ := hL
  rw [List.mem_range] at hl
  unfold gapRow at hx
  rw [List.mem_map] at hx
  obtain ⟨s, hs, he⟩ := hx
  rw [List.mem_filter, List.mem_range] at hs
  have := hs.1
  rw [h.row hl] at this
  exact ⟨l, s, he.symm, hl, this⟩
theorem putAt_len (rows : List (List Int)) (l s : Nat) (z : Int) : (putAt rows l s z).length = rows.length := by simp [putAt]
theorem fillTo_len (xss : List (List Int)) (zs : List Int) (k : Nat) : (fillTo xss zs k).length = xss.length := by
  induction k with
  | zero => rfl
  | succ k ih => rw [fillTo_succ, putAt_len, ih]
theorem putAt_row (rows : List (List Int)) (l s : Nat) (z : Int) (j : Nat) : ((putAt rows l s z).getD j []).length = (rows.getD j []).length := by
  unfold putAt
  by_cases h : j = l
  · subst h
    by_cases hj : j < rows.length
    · rw [getD_set_same _ _ _ _ hj, List.length_set]
    · simp [List.getD_eq_getElem?_getD, hj]
  · rw [getD_set_other _ _ _ _ _ h]
theorem fillTo_row (xss : List (List Int)) (zs : List Int) (k j : Nat) : ((fillTo xss zs k).getD j []).length = (xss.getD j []).length := by
  induction k with
  | zero => rfl
  | succ k ih => rw [fillTo_succ, putAt_row, ih]

/-- the numbers of a list of gaps -/
structure GapsIn (w : World) (v : Value) (n : Nat) (zs : List Int) (ao : Option Addr) (b c : Nat) : Prop where
  val : v = .slice ao n c
  adr : 0 < n → ao = some ⟨b, 0, none⟩
  cell : ∀ j, j < 2 * n → w.cell? ⟨b, j, none⟩ = some (.int .i64 (zs.getD j 0))
theorem gaps_in {w : World} {lo n : Nat} {v : Value} {zs : List Int} (h : w.ownsRow lo 52 2 v n (zs.map (Value.int .i64))) : ∃ ao b c, GapsIn w v n zs ao b c := by
  have hl := h.1
  rw [List.length_map] at hl
  rcases h.2 with ⟨rfl, rfl⟩ | ⟨g, cap, cur, rfl, _⟩
  · exact ⟨none, 0, 0, rfl, by omega, fun j hj => by omega⟩
  · refine ⟨_, g, cap, rfl, fun _ => rfl, fun j hj => ?_⟩
    rw [h.cellAt j (by omega)]
    simp [List.getD_eq_getElem?_getD, show j < zs.length by omega]
theorem idxG_of {ao : Option Addr} {b n c : Nat} (ha : 0 < n → ao = some ⟨b, 0, none⟩) {k : Nat} (hk : k < n) (kd : IntKind) :
    ∀ w, (Instr.indexAt 38 (.slice ao n c) (.int kd (k : Int))).run Tryz.prog w = .ok (.pointer (some ⟨b, k * 2, none⟩)) w := by
  intro w
  obtain rfl := ha (by omega)
  have he : Tryz.prog.elem 38 = 52 := by simp [Program.elem, Tryz.underlying38]
  rw [run_indexAt_slice (P := Tryz.prog) w _ _ n c kd k (by rw [he]; exact Tryz.underlying38), if_pos (by omega), he, size2_gap]
  simp [Result.andThen, Addr.add_lit]

/-- all that is older than B stays -/
theorem heldB {B : Nat} {w0 W : World} (hb : Below B w0 W) : Below B w0 W ∧ ∀ b o, b < B → W.cell? ⟨b, o, none⟩ = w0.cell? ⟨b, o, none⟩ := ⟨hb, fun b o h => hb.cell (p := ⟨b, o, none⟩) h⟩
theorem heldB_nx {B : Nat} {w0 W W' : World} (hb : Below W.heap.size W W') (h : Below B w0 W ∧ ∀ b o, b < B → W.cell? ⟨b, o, none⟩ = w0.cell? ⟨b, o, none⟩) (hB : B ≤ w0.heap.size) : Below B w0 W' ∧ ∀ b o, b < B → W'.cell? ⟨b, o, none⟩ = w0.cell? ⟨b, o, none⟩ :=
  heldB (h.1.trans (hb.mono (Nat.le_trans hB h.1.size)))
theorem heldB_alloc {B : Nat} {w0 W : World} {ob : Obj} (h : Below B w0 W ∧ ∀ b o, b < B → W.cell? ⟨b, o, none⟩ = w0.cell? ⟨b, o, none⟩) (hB : B ≤ w0.heap.size) : Below B w0 (W.alloc ob) ∧ ∀ b o, b < B → (W.alloc ob).cell? ⟨b, o, none⟩ = w0.cell? ⟨b, o, none⟩ :=
  heldB_nx (below_alloc (Below.refl _ _) _) h hB

set_option maxRecDepth 100000 in
set_option maxHeartbeats 4000000 in
theorem filled_any (st : Int) (v : Value) (xss : List (List Int)) (n : Nat) (u : Value) (zs : List Int) (w : World) (h1 : Rows2 w v xss) (hg : GoodP st n xss) (h2 : Ints w u zs) (hl : zs.length = (gapsOf xss).length) :
    Calls Tryz.prog 44 #[.agg #[.int .i64 st, v], u] w (NewAuto st (fillTo xss zs (gapsOf xss).length) w) := by
  obtain ⟨ao1, p1, o1, c1, H1⟩ := h1.open
  have hv := H1.val
  subst hv
  have hm := H1.len
  obtain ⟨ao3, p3, o3, c3, H3⟩ := h2.open
  have hv3 := H3.val
  subst hv3
  have hm3 := H3.len
  have hl3 := hg.len3
  have HL1 : Hid (0 < xss.length) := by have := hg.len1; unfold Hid; omega
  have A1 := H1.adr
  have A3 := H3.adr
  have HZC := Lib.hid (fun k (hk : k < zs.length) => H3.cell k hk)
  have HROW := Lib.hid (fun k (hk : k < xss.length) => H1.cell k hk)
  have HCL := Lib.hid (fun (r : Value) k (hk : k < xss.length) (hr : Ints w r (xss.getD k [])) W (hW : Below w.heap.size w W) => cloneInts_any r _ W (hr.kept hW) (by rw [hg.row hk]; have := hg.hi; omega))
  have HGP := Lib.hid (fun W (hW : Below w.heap.size w W) => partGaps_any st _ xss n W (h1.kept hW) hg)
  have HG := Lib.hid hg
  obtain ⟨W2, hW2⟩ : ∃ W2, W2 = (w.alloc (.cells #[.int .i64 st, .slice ao1 xss.length c1] 26)).alloc (.cells #[.int .i64 0, .slice none 0 0] 47) := ⟨_, rfl⟩
  have bW2 : Below w.heap.size w W2 := by rw [hW2]; exact below_alloc (below_alloc (Below.refl _ _) _) _
  have sW2 : W2.heap.size = w.heap.size + 1 + 1 := by rw [hW2]; simp
  have x0 : W2.cell? ⟨w.heap.size, 0, none⟩ = some (.int .i64 st) := by rw [hW2]; go_simp
  have x1 : W2.cell? ⟨w.heap.size, 1, none⟩ = some (.slice ao1 xss.length c1) := by rw [hW2]; go_simp
  have x2 : W2.cell? ⟨w.heap.size + 1, 0, none⟩ = some (.int .i64 0) := by rw [hW2]; go_simp
  have x3 : W2.cell? ⟨w.heap.size + 1, 1, none⟩ = some (.slice none 0 0) := by rw [hW2]; go_simp
  have y2 : W2.frozen? ⟨w.heap.size + 1, 0, none⟩ = false := by rw [hW2]; go_simp
  have y3 : W2.frozen? ⟨w.heap.size + 1, 1, none⟩ = false := by rw [hW2]; go_simp
  have hO0 : OutAt (W2.alloc (.cells #[.int .i64 st, .slice none 0 0] 47)) W2.heap.size (W2.heap.size + 1) st (xss.take 0) := ⟨_, [], by go_simp, by go_simp, by go_simp, ownRows_nil _ _⟩
  have hB0 : Below W2.heap.size W2 (W2.alloc (.cells #[.int .i64 st, .slice none 0 0] 47)) := below_alloc (Below.refl _ _) _
  have HO0 := Lib.hid hO0
  have HB0 := Lib.hid hB0
  obtain ⟨ob, hob⟩ : ∃ ob, ob = w.heap.size + 1 + 1 := ⟨_, rfl⟩
  rw [sW2, ← hob] at HO0 HB0
  have hs2 : ob ≤ W2.heap.size := by omega
  have hs3 : w.heap.size ≤ ob := by omega
  rw [hW2] at HO0 HB0
  have HLZ := Lib.hid hl
  clear h1 hg H1 H3 h2 hO0 hB0 hl
  go_enter Tryz.func44, Tryz.ntmps44
  go_wp2
  rw [← hob]
  rw [← hW2] at HO0 HB0
  have HOBE := Lib.hid hob
  have hob1 : w.heap.size + 1 < ob := by omega
  clear hob
  go_loopw [16] (fun i wr => ∃ k : Nat, k ≤ xss.length ∧ i = .int .i64 k ∧ Hid (OutAt wr ob (ob + 1) st (xss.take k)) ∧ Below ob W2 wr) (fun i _ => xss.length - (intOf i).toNat)
  case atStart =>
    refine ⟨0, Nat.zero_le _, rfl, ?_, ?_⟩
    · rw [← hW2]; exact HO0.out
    · rw [← hW2]; exact HB0.out
  case round =>
    obtain ⟨k, hk, rfl, HO, hb⟩ := hrel
    have hbw : Below w.heap.size w wr := bW2.trans (hb.mono hs3)
    by_cases hlt : k < xss.length
    · have i1 := idx_of Tryz.underlying24 size1_ints (c := c1) A1 hlt .i64
      obtain ⟨r1, d2, hr1⟩ := HROW.out k hlt
      have e2 := below_cell hbw d2
      have HCK := Lib.hid (fun W (hW : Below w.heap.size w W) => HCL.out r1 k hlt hr1 W hW)
      obtain ⟨v0, rs, k0, k1, g1, ho⟩ := HO.out
      obtain ⟨av, mv, cv, rfl, HMv⟩ := own_shape ho.outer
      have hlen : (xss.take k).length = k := by rw [List.length_take]; omega
      have hou := ho.outer
      rw [hlen] at hou
      have HOU := Lib.hid hou
      have HLEN := Lib.hid hlen
      have HOW := Lib.hid ho
      have lob := block_lt_of_cell k1
      have hlob : ob < wr.heap.size := lob
      obtain ⟨yk, hyk⟩ : ∃ yk, yk = xss.getD k [] := ⟨_, rfl⟩
      rw [← hyk] at HCK
      have hnx : xss.take k ++ [yk] = xss.take (k + 1) := by rw [hyk, List.take_succ_eq_append_getElem hlt]; simp [List.getD_eq_getElem?_getD, hlt]
      have HNX := Lib.hid hnx
      clear hyk hnx hr1 d2 hou ho HO HMv
      go_wp2
      have hbd := hbw.drew
      go_region_law
        (first
          | (have j0 := below_cell (below_alloc hb5 (.cells #[.slice a4 m4 c4] 45)) k0; have j1 := below_cell (below_alloc hb5 (.cells #[.slice a4 m4 c4] 45)) k1; have q1 := ((below_alloc hb5 (.cells #[.slice a4 m4 c4] 45)).frozen (p := ⟨ob, 1, none⟩) hlob).trans g1; have hz5 : wr.heap.size ≤ w4.heap.size := hb5.size; refine step_appG elem_ints rfl (.tmp 21) (.tmp 24) rfl (ob + 1) rfl (own_below HOU.out (below_alloc hb5 (.cells #[.slice a4 m4 c4] 45))) w4.heap.size (.slice a4 m4 c4) rfl (by go_simp) rfl (by unfold maxLen; omega) (by omega) (by simp; omega) ?_; intro v6 w6 ho6 hg6; obtain ⟨a6, m6, c6, rfl, HM6⟩ := own_shape ho6; have rc1 := grown_cell hg6 (own_below HOU.out (below_alloc hb5 (.cells #[.slice a4 m4 c4] 45))) (by omega) j1; have rc2 := grown_frozen hg6 (own_below HOU.out (below_alloc hb5 (.cells #[.slice a4 m4 c4] 45))) (by omega) j1 q1; have HK6 : Hid (Below ob W2 w6) := Below.grown ((hb.trans (hb5.mono (Nat.le_of_lt hlob))).alloc (by omega) _) hg6 (by simp; omega) (fun g hg => by have := own_block HOU.out hg; omega))
          | (go_simp; go_at_call 67; (with_reducible refine (HCK.out _ (by assumption)).mono ?_); rintro e w4 ⟨v4, rfl, ho4, hb4⟩; obtain ⟨a4, m4, c4, rfl, HM4⟩ := own_shape ho4; have hb5 : Below wr.heap.size wr w4 := (by first | exact hb4 | exact below_trans ((Below.refl wr.heap.size wr).drew) hb4); have k14 := below_cell hb5 k1; have lob4 : ob < w4.heap.size := block_lt_of_cell k14))
      all_goals
        have hr5 : (w4.alloc (.cells #[.slice a4 m4 c4] 45)).ownsRow wr.heap.size 2 1 (.slice a4 m4 c4) yk.length (yk.map (Value.int .i64)) := World.ownsRow.alloc ho4 _
        have hout := OutAt.pushed (HOW.out.below (below_alloc hb5 (.cells #[.slice a4 m4 c4] 45))) j0 j1 q1 (by omega) hg6 (by rw [HLEN.out]; exact ho6) hr5 (by omega) (HOW.out.apart_new hr5)
        rw [HNX.out] at hout
        have HOUT := Lib.hid hout
        have HB7 := Lib.hid (HK6.out.setCell (p := ⟨ob, 1, none⟩) (Nat.le_refl _) (.slice a6 m6 c6))
        clear hout hr5 ho4 ho6 hg6 j0 j1 q1
        go_wp2
        go_roundw
        case rel => exact ⟨k + 1, by omega, by go_num, HOUT.out, HB7.out⟩
        case measure => simp [intOf]; omega
    · obtain rfl : k = xss.length := by omega
      have hl1 := HL1.out
      have hO := HO.out
      rw [List.take_length] at hO
      obtain ⟨v0, rs, k0, k1, g1, ho⟩ := hO
      obtain ⟨og, oc, rfl, _⟩ := own_some ho.outer hl1
      have e0 := Below.cellOf hb x0 (by omega)
      have e1 := Below.cellOf hb x1 (by omega)
      have lob : ob < wr.heap.size := block_lt_of_cell k1
      have hrl := ho.len
      have HRW : Hid (∀ j, j < xss.length → ∀ g, (rs.getD j undef).ownBlock = some g → ob + 1 ≤ g ∧ g < wr.heap.size) := fun j hj g hg => own_block (ho.row j hj) hg
      have hfr : ∀ b, b ≤ ob ∨ wr.heap.size ≤ b → ∀ j, j < rs.length → some b ≠ (rs.getD j undef).ownBlock := fun b hb j hj e => by
        have := HRW.out j (by omega) b e.symm
        omega
      have HFR := Lib.hid hfr
      have HO2 := Lib.hid ho
      clear hfr ho HO hl1 A1
      go_wp2_with fail
      refine (HGP.out _ hbw).mono ?_
      rintro e w5 ⟨vg, rfl, hog, hb5⟩
      obtain ⟨ga, gb, gc, hGI⟩ := gaps_in hog
      have hgv := hGI.val
      subst hgv
      have HGA := hGI.adr
      have HGC := Lib.hid (fun q (hq : q < (gapsOf xss).length) => hGI.cell (q * 2) (by omega))
      have HGD := Lib.hid (fun q (hq : q < (gapsOf xss).length) => hGI.cell (q * 2 + 1) (by omega))
      have HGB : Hid (∀ q, q < (gapsOf xss).length → wr.heap.size ≤ gb) := fun q hq => (own_block hog (by rw [HGA (by omega)]; rfl)).1
      have HO5 := Lib.hid (HO2.out.below hb5)
      have m0 := below_cell hb5 k0
      have m1 := below_cell hb5 k1
      have n1 := (hb5.frozen (p := ⟨ob, 1, none⟩) lob).trans g1
      have hB5 := hb.trans (hb5.mono (Nat.le_of_lt lob))
      have HGI := Lib.hid (gapInts_get (gapsOf xss))
      have HGM := Lib.hid (fun q (hq : q < (gapsOf xss).length) => gapsOf_mem HG.out hq)
      have HFS := Lib.hid (fillTo_succ xss zs)
      have HLL := Lib.hid (fillTo_len xss zs)
      have HLR : Hid (∀ q l, l < xss.length → ((fillTo xss zs q).getD l []).length = n) := fun q l hl => by rw [fillTo_row]; exact HG.out.row hl
      have hn10 := HG.out.hi
      have hn1 := HG.out.lo
      have HZ2 := Lib.hid (fun q (hq : q < (gapsOf xss).length) => HZC.out q (by rw [HLZ.out]; exact hq))
      have HZI := Lib.hid (fun q (hq : q < (gapsOf xss).length) => idx_of Tryz.underlying45 size1_int (c := c3) A3 (show q < zs.length by rw [HLZ.out]; exact hq) .i64)
      have HO0 : Hid (OwnRows w5 (ob + 1) (.slice (some ⟨og, 0, none⟩) xss.length oc) rs (fillTo xss zs 0)) := HO5.out
      have hGL : (gapsOf xss).length ≤ 40 := gapsOf_len HG.out
      have hs5 : wr.heap.size ≤ w5.heap.size := hb5.size
      generalize hfz : fillTo xss zs = FT at HFS HLL HLR HO0
      generalize hgz : gapsOf xss = GS at HGA HGC HGD HGB HGI HGM HFS HZ2 HZI hGL
      clear hog hGI A3
      go_wp2
      go_loopw [31] (fun i wq => ∃ q : Nat, q ≤ GS.length ∧ i = .int .i64 q ∧ Hid (OwnRows wq (ob + 1) (.slice (some ⟨og, 0, none⟩) xss.length oc) rs (FT q)) ∧ Hid (Fr rs w5 wq) ∧ Below ob W2 wq) (fun i _ => GS.length - (intOf i).toNat)
      case atStart => exact ⟨0, Nat.zero_le _, rfl, HO0.out, Fr.refl _ _, hB5⟩
      case round =>
        obtain ⟨q, hq, rfl, HOQ, HFQ, hbq⟩ := hrel
        have c0 := HFQ.out.cell m0 (HFR.out ob (.inl (Nat.le_refl _)))
        have c1' := HFQ.out.cell m1 (HFR.out ob (.inl (Nat.le_refl _)))
        have lq : ob < wr.heap.size := block_lt_of_cell c1'
        by_cases hltq : q < GS.length
        · obtain ⟨l, s, hls, hl, hsn⟩ := HGM.out q hltq
          have d0 := HFQ.out.cell (HGC.out q hltq) (HFR.out gb (.inr (HGB.out q hltq)))
          have d1 := HFQ.out.cell (HGD.out q hltq) (HFR.out gb (.inr (HGB.out q hltq)))
          rw [(HGI.out q hltq).1, hls] at d0
          rw [(HGI.out q hltq).2, hls] at d1
          have ld := block_lt_of_cell d0
          have i5 := idxG_of (c := gc) HGA hltq .i64
          have i6 := HZI.out q hltq
          have hbwq : Below w.heap.size w wr := bW2.trans (hbq.mono hs3)
          have d2 := below_cell hbwq (HZ2.out q hltq)
          have hll := HLL.out q
          have hrow := HOQ.out.row l (by rw [hll]; exact hl)
          rw [HLR.out q l hl] at hrow
          obtain ⟨rg, rc, hrv, _⟩ := own_some hrow hn1
          have hol := HOQ.out.outer
          rw [hll] at hol
          have hrs := hol.1
          have d3 : wr.cell? ⟨og, l, none⟩ = some (.slice (some ⟨rg, 0, none⟩) n rc) := by
            rw [hol.cellAt l (by omega), ← hrv]
            simp [List.getD_eq_getElem?_getD, show l < rs.length by omega]
          have hrow2 := hrow
          rw [hrv] at hrow2
          have d4 := hrow2.cellAt s (by omega)
          have f4 := hrow2.frozenAt s
          have hx1 := hrow2.1
          have hsome : (wr.cell? ⟨rg, s, none⟩).isSome = true := by rw [d4]; exact Option.isSome_iff_exists.2 ⟨_, List.getElem?_eq_getElem (by omega)⟩
          obtain ⟨u4, hu4⟩ := Option.isSome_iff_exists.1 hsome
          have log := block_lt_of_cell d3
          have lrg := block_lt_of_cell hu4
          have lp3 := block_lt_of_cell d2
          have i7 := idx_of Tryz.underlying24 size1_ints (ao := some ⟨og, 0, none⟩) (b := og) (o := 0) (n := xss.length) (c := oc) (fun _ => rfl) hl .i64
          have i8 := idx_of Tryz.underlying45 size1_int (ao := some ⟨rg, 0, none⟩) (b := rg) (o := 0) (n := n) (c := rc) (fun _ => rfl) hsn .i64
          rw [Nat.zero_add] at i7 i8
          obtain ⟨zq, hzq⟩ : ∃ zq, zq = zs.getD q 0 := ⟨_, rfl⟩
          rw [← hzq] at d2
          have HROW2 := Lib.hid hrow2
          have HRV := Lib.hid hrv
          have HLS := Lib.hid hls
          have HZQ := Lib.hid hzq
          have HRSL : Hid (l < rs.length) := by unfold Hid; omega
          have lrg2 : ob + 1 ≤ rg := (own_block HROW2.out rfl).1
          clear hsome d4 hrow hrow2 hrv hls hzq hol hll hrs hx1
          go_wp2
          go_region
          all_goals
            have hst := HROW2.out.stored s (.int .i64 zq)
            have hnw0 := HOQ.out.turned (k := l) (by rw [HLL.out]; exact hl) (ys := ((FT q).getD l []).set s zq) (by simp) (by rw [HRV.out]; exact hst.2) (by rw [HRV.out, List.length_set, HLR.out q l hl, List.map_set]; exact hst.1)
            have hft : FT (q + 1) = (FT q).set l (((FT q).getD l []).set s zq) := by rw [HFS.out q, HLS.out, HZQ.out]; unfold putAt; simp
            rw [← hft] at hnw0
            have hnew := ownRows_drew (hnw0.alloc (.cells #[.int .i64 (l : Int), .int .i64 (s : Int)] 52))
            have hfr6 := ((HFQ.out.grown (j := l) HRSL.out (by rw [HRV.out]; exact hst.2)).below (below_alloc (Below.refl _ _) (.cells #[.int .i64 (l : Int), .int .i64 (s : Int)] 52))).below ((Below.refl _ _).drew)
            have hb6 := ((hbq.setCell (p := ⟨rg, s, none⟩) (by show ob ≤ rg; omega) (.int .i64 zq)).alloc (by simp; omega) (.cells #[.int .i64 (l : Int), .int .i64 (s : Int)] 52)).drew
            have HNEW := Lib.hid hnew
            have HFR6 := Lib.hid hfr6
            have HB6 := Lib.hid hb6
            clear hst hnw0 hnew hft hfr6 hb6
            go_wp2
            go_roundw
            case rel => exact ⟨q + 1, by omega, by go_num, HNEW.out, HFR6.out, HB6.out⟩
            case measure => simp [intOf]; omega
        · obtain rfl : q = GS.length := by omega
          have e2 := Below.cellOf hbq x2 (by omega)
          have e3 := Below.cellOf hbq x3 (by omega)
          have z2 := (hbq.frozen (p := ⟨w.heap.size + 1, 0, none⟩) (by show w.heap.size + 1 < ob; omega)).trans y2
          have z3 := (hbq.frozen (p := ⟨w.heap.size + 1, 1, none⟩) (by show w.heap.size + 1 < ob; omega)).trans y3
          have hbwq : Below w.heap.size w wr := bW2.trans (hbq.mono hs3)
          have HBW := Lib.hid hbwq
          have l2 := block_lt_of_cell e2
          subst hfz
          subst hgz
          go_wp2
          refine bodyPost_ret (v := .agg #[.int .i64 st, .slice (some ⟨og, 0, none⟩) xss.length oc]) (by simp [results, Tryz.results44, go_sem, e2, e3, l2]) rfl ⟨_, rs, rfl, ?_, ?_⟩
          · refine OwnRows.mono (lo := ob + 1) ?_ (by omega)
            repeat (first | exact HOQ.out | refine OwnRows.set_below ?_ (by first | omega | simp) _ _)
          · repeat (first | exact HBW.out | refine below_set ?_ (by first | omega | simp) _ _)

end Go.Proofs.YtfdacodbiodiaaaGreatDoor
