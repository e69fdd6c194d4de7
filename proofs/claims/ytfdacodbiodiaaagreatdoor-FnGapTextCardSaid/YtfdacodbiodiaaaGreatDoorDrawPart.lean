/- l04Draw: a valid partial automaton is drawn. Written by gen_drawpart.py. -/
import Derived.Test.YtfdacodbiodiaaaGreatDoorDrawSt
import Derived.Test.YtfdacodbiodiaaaGreatDoorValidPart
import Derived.Test.YtfdacodbiodiaaaGreatDoorFr
import Derived.Deep.RegionLaw
import Derived.Deep.DeepCutAuto
namespace Go.Proofs.YtfdacodbiodiaaaGreatDoor
set_option linter.unusedVariables false
set_option linter.unusedSimpArgs false
open Go.ChangeShapes Go.WideShapes Go.ChangeAt Go.RowKit

theorem OutAt.src {w w' : World} {sb ob lo : Nat} {st : Int} {xss : List (List Int)} (h : OutAt w ob lo st xss) (hg : w.grownBy w' (some sb)) (hs : sb < lo) (hne : ob ≠ sb) : OutAt w' ob lo st xss := by
  obtain ⟨v, rs, c0, c1, f1, ho⟩ := h
  exact ⟨v, rs, cell_src c0 hg hne, cell_src c1 hg hne, frozen_src (block_lt_of_cell c1) f1 hg hne, ho.src hg hs⟩
theorem validP_of {st : Int} {n : Nat} {xss : List (List Int)} (hs : st = n) (h1 : 1 ≤ n) (h2 : n ≤ 10) (h3 : 1 ≤ xss.length) (h4 : xss.length ≤ 3) (h : ∀ r ∈ xss, r.length = n ∧ ∀ z ∈ r, -1 ≤ z ∧ z < (n : Int)) : validP st xss = true := by
  subst hs
  unfold validP rowsP
  rw [Bool.and_eq_true, Bool.and_eq_true]
  refine ⟨inB_true.2 (by omega), inB_true.2 (by omega), ?_⟩
  rw [List.all_eq_true]
  intro r hr
  obtain ⟨a, b⟩ := h r hr
  rw [Bool.and_eq_true]
  refine ⟨decide_eq_true (by omega), allIn_iff.2 fun z hz => ?_⟩
  have := b z hz
  omega
theorem grown_new {a b c : World} {r r2 : Option Nat} (h : a.grownBy b r) (k : b.grownBy c r2) (hr : ∀ g, r2 = some g → a.heap.size ≤ g ∨ some g = r) : a.grownBy c r :=
  ⟨k.os.trans h.os, k.tape.trans h.tape, k.output.trans h.output, Nat.le_trans h.size k.size, fun j hj hne => (k.block j (Nat.lt_of_lt_of_le hj h.size) (fun e => by
    rcases hr j e.symm with h1 | h1
    · omega
    · exact hne h1)).trans (h.block j hj hne)⟩
theorem grown_of_below {a b : World} {r : Option Nat} (h : Below a.heap.size a b) : a.grownBy b r := ⟨h.os, h.tape, h.output, h.size, fun j hj _ => h.block j hj⟩
theorem below_of_grown {a b : World} {sb : Nat} (h : a.grownBy b (some sb)) (hs : sb ≤ a.heap.size) : Below sb a b := ⟨h.os, h.tape, h.output, h.size, fun j hj => h.block j (by omega) (fun e => by injection e with e; omega)⟩
/-- a row made behind a world is apart from the rows that lay there -/
theorem apart_rows {wo w : World} {lo : Nat} {v r : Value} {rs : List Value} {zss : List (List Int)} {e : TypeId} {m : Nat} {xs : List Value} (hr : w.ownsRow wo.heap.size e 1 r m xs) (ho : OwnRows wo lo v rs zss) : ∀ i, i < zss.length → (rs.getD i undef).ownBlock = none ∨ (rs.getD i undef).ownBlock ≠ r.ownBlock := fun i hi => by
  cases hv : (rs.getD i undef).ownBlock with
  | none => exact .inl rfl
  | some q =>
    refine .inr fun hh => ?_
    have a1 := own_block (ho.row i hi) hv
    have a2 := own_block hr hh.symm
    omega

/-- a valid partial automaton, all whose memory is new -/
def PartDraw (sb : Nat) (w : World) (e : Ending) (w' : World) : Prop :=
  ∃ (st : Int) (v : Value) (rs : List Value) (xss : List (List Int)), e = .returned (.agg #[.int .i64 st, v]) ∧ OwnRows w' w.heap.size v rs xss ∧ validP st xss = true ∧ Below sb w w'

set_option maxRecDepth 100000 in
set_option maxHeartbeats 8000000 in
theorem l04Draw_any (sb : Nat) (w : World) (h : SrcIn w sb 0) :
    Calls Tryz.prog 20 #[.pointer (some ⟨sb, 0, none⟩), .int .i64 4, .int .i64 4] w (PartDraw sb w) := by
  have hsb : sb < w.heap.size := by obtain ⟨v, k, sd, c0, _⟩ := h; exact block_lt_of_cell c0
  have HPK := Lib.hid (fun m W (n : Int) (hs : SrcIn W sb m) (hm : m ≤ 1000000) (hn : n ≤ 200) => pick_any sb m n W hs hm hn)
  have HON := Lib.hid (fun m W (n : Int) (hs : SrcIn W sb m) (hm : m ≤ 1000000) (hn : n ≤ 200) => one_any sb m n W hs hm hn)
  obtain ⟨W2, hW2⟩ : ∃ W2, W2 = w.alloc (.cells #[.int .i64 0, .slice none 0 0] 26) := ⟨_, rfl⟩
  have bx : Below w.heap.size w W2 := by rw [hW2]; exact below_alloc (Below.refl _ _) _
  have p4 : W2.cell? ⟨w.heap.size, 0, none⟩ = some (.int .i64 0) := by rw [hW2]; go_simp
  have p5 : W2.cell? ⟨w.heap.size, 1, none⟩ = some (.slice none 0 0) := by rw [hW2]; go_simp
  have g4 : W2.frozen? ⟨w.heap.size, 0, none⟩ = false := by rw [hW2]; go_simp
  have g5 : W2.frozen? ⟨w.heap.size, 1, none⟩ = false := by rw [hW2]; go_simp
  have HS2 := Lib.hid (h.below bx)
  have hl2 : w.heap.size < W2.heap.size := block_lt_of_cell p4
  have hne : w.heap.size ≠ sb := by omega
  have bx2 : Below sb w W2 := bx.mono (by omega)
  subst hW2
  clear h
  go_enter Tryz.func20, Tryz.ntmps20
  go_wp2_with fail
  refine (HPK.out 0 _ 4 HS2.out (by omega) (by omega)).mono ?_
  rintro e w1 ⟨y0, rfl, hy0, hy1, hs1, hg1, hz1⟩
  have hy1' := hy1 (by omega)
  obtain ⟨n, hn⟩ : ∃ n : Nat, 1 + y0 = (n : Int) := ⟨(1 + y0).toNat, by omega⟩
  have hn1 : 1 ≤ n := by omega
  have hn4 : n ≤ 4 := by omega
  have q4 := cell_src p4 hg1 hne
  have q5 := cell_src p5 hg1 hne
  have f4 := frozen_src hl2 g4 hg1 hne
  have f5 := frozen_src hl2 g5 hg1 hne
  have b1 : Below sb w w1 := Below.grown bx2 hg1 (by omega) (fun g hg => by injection hg with hg; omega)
  have hl1 : w.heap.size < w1.heap.size := block_lt_of_cell q4
  have HS1 := Lib.hid (hs1.below (below_alloc (Below.refl _ _) (.cells #[.int .i64 (n : Int), .slice none 0 0] 26)))
  have HO1 : Hid (OutAt (w1.alloc (.cells #[.int .i64 (n : Int), .slice none 0 0] 26)) w1.heap.size (w1.heap.size + 1) n []) := ⟨_, [], by go_simp, by go_simp, by go_simp, ownRows_nil _ _⟩
  have HB1 : Hid (Below w1.heap.size w1 (w1.alloc (.cells #[.int .i64 (n : Int), .slice none 0 0] 26))) := below_alloc (Below.refl _ _) _
  have HN := Lib.hid hn
  clear hy1 hs1 hg1 hz1 hy1' p4 p5 g4 g5 hl2 bx bx2
  go_wp2_with fail
  refine (HPK.out 1 _ 3 HS1.out (by omega) (by omega)).mono ?_
  rintro e w2 ⟨y2, rfl, hy2, hy3, hs2, hg2, hz2⟩
  have hy3' := hy3 (by omega)
  obtain ⟨K, hK⟩ : ∃ K : Nat, 1 + y2 = (K : Int) := ⟨(1 + y2).toNat, by omega⟩
  have hK1 : 1 ≤ K := by omega
  have hK3 : K ≤ 3 := by omega
  have hsw1 : sb < w1.heap.size := by omega
  have hne1 : w1.heap.size ≠ sb := by omega
  have HO2 := Lib.hid (OutAt.src HO1.out hg2 (by omega) hne1)
  have HS2' := Lib.hid hs2
  have HG2 := Lib.hid (grown_new (r := some sb) (grown_of_below HB1.out) hg2 (fun g hg => .inr hg.symm))
  clear hy3 hs2 hg2 hz2 hy3' HS1 HO1 HB1 HS2
  go_wp2
  go_loopw [8, 9, 10] (fun i z9 z10 wr => ∃ (k : Nat) (zss : List (List Int)), zss.length + k = K ∧ i = .int .i64 k ∧ Hid (OutAt wr w1.heap.size (w1.heap.size + 1) n zss) ∧ Hid (∀ r ∈ zss, r.length = n ∧ ∀ z ∈ r, 0 ≤ z ∧ z < (n : Int)) ∧ Hid (SrcIn wr sb (2 + 10 * zss.length)) ∧ Hid (w1.grownBy wr (some sb))) (fun i _ _ _ => (intOf i).toNat)
  case atStart => exact ⟨K, [], by simp, rfl, HO2.out, (by intro r hr; cases hr), by unfold Hid; simpa using HS2'.out, HG2.out⟩
  case round =>
    obtain ⟨k, zss, hzl, rfl, HO, HR, HS, HG⟩ := hrel
    by_cases hk : 0 < k
    · obtain ⟨wo, rfl⟩ : ∃ wo : World, wo = wr := ⟨_, rfl⟩
      obtain ⟨v0, rs, k0, k1, g1, ho⟩ := HO.out
      have lobo : w1.heap.size + 1 ≤ wo.heap.size := block_lt_of_cell k0
      have HE := Lib.hid (own_empty wo wo.heap.size (Nat.le_refl _) 2)
      have HS0 := Lib.hid (HS.out.below (below_alloc (Below.refl _ _) (.cells #[] 2)))
      have HG0 : Hid (wo.grownBy (wo.alloc (.cells #[] 2)) (some sb)) := grown_of_below (below_alloc (Below.refl _ _) _)
      have hkI : (0 : Int) < (k : Int) := by omega
      clear ho
      go_wp2
      go_loopw [9, 10] (fun u i wr => ∃ (ys : List Int), ys.length ≤ n ∧ i = .int .i64 ys.length ∧ Hid (wr.ownsRow wo.heap.size 2 1 u ys.length (ys.map (Value.int .i64))) ∧ Hid (∀ z ∈ ys, 0 ≤ z ∧ z < (n : Int)) ∧ Hid (SrcIn wr sb (2 + 10 * zss.length + ys.length)) ∧ Hid (wo.grownBy wr (some sb))) (fun _ i _ => n - (intOf i).toNat)
      case atStart => exact ⟨[], Nat.zero_le _, rfl, HE.out, (by intro z hz; cases hz), HS0.out, HG0.out⟩
      case round =>
        obtain ⟨ys, hyl, rfl, HY, HZ, HSY, HGY⟩ := hrel
        have m0 := cell_src k0 HGY.out hne1
        have lm0 := block_lt_of_cell m0
        have hwol := HGY.out.size
        by_cases hlt : ys.length < n
        · go_wp2_with fail
          refine (HPK.out _ _ (n : Int) HSY.out (by omega) (by omega)).mono ?_
          rintro e w3 ⟨y, rfl, hyy0, hyy1, hs3, hg3, hz3⟩
          have HY3 := Lib.hid (own_src HY.out hg3 (by omega))
          have HS3 := Lib.hid hs3
          have HG3 := Lib.hid (grown_trans HGY.out hg3)
          have hlow3 : wo.heap.size ≤ w3.heap.size := by omega
          have HYL := Lib.hid (hyy1 (by omega))
          clear hs3 hg3 hyy1 hz3
          go_wp2_with (at_builtin; refine wpList_push elem_int rfl (.tmp 31) (.tmp 36) rfl wo.heap.size rfl HY3.out _ rfl rfl (by unfold maxLen; omega) (by omega) hlow3 ?_; intro v6 w6 ho6 hg6 hs6)
          have HS6 := Lib.hid (HS3.out.grown hg6 (fun g hg => by have := (own_block HY3.out hg).1; omega))
          have HG6 := Lib.hid (grown_new HG3.out hg6 (fun g hg => .inl (own_block HY3.out hg).1))
          have HO6 := Lib.hid ho6
          clear ho6 hg6 hs6
          go_wp2
          go_roundw
          case rel =>
            refine ⟨ys ++ [y], (by rw [List.length_append, List.length_singleton]; omega), (by simp), ?_, ?_, ?_, HG6.out⟩
            · unfold Hid; simpa using HO6.out
            · intro z hz
              rcases List.mem_append.1 hz with h | h
              · exact HZ.out z h
              · rw [List.mem_singleton] at h; subst h; exact ⟨hyy0, HYL.out⟩
            · exact HS6.out.mono (by rw [List.length_append, List.length_singleton]; omega)
          case measure => simp [intOf]; omega
        · have hyn : ys.length = n := by omega
          obtain ⟨rg, rcap, rfl, hcap⟩ := own_some HY.out (by omega)
          have hcd : ¬ ((ys.length : Int) < (n : Int)) := by omega
          rw [hyn] at HY
          rw [hyn]
          clear hlt
          go_wp2_with fail
          refine (HON.out _ _ 3 HSY.out (by omega) (by omega)).mono ?_
          rintro e w4 ⟨b, rfl, hs4, hg4, hz4⟩
          have HY4 := Lib.hid (own_src HY.out hg4 (by omega))
          have HS4 := Lib.hid hs4
          have HG4 := Lib.hid (grown_trans HGY.out hg4)
          have hlow4 : wo.heap.size ≤ w4.heap.size := by omega
          clear hs4 hg4 hz4 m0 lm0
          cases b with
          | false =>
            have HYS : Hid (ys.length = n ∧ ∀ z ∈ ys, 0 ≤ z ∧ z < (n : Int)) := ⟨hyn, HZ.out⟩
            have HROW : Hid (w4.ownsRow wo.heap.size 2 1 (.slice (some ⟨rg, 0, none⟩) n rcap) ys.length (ys.map (Value.int .i64))) := by unfold Hid; rw [hyn]; exact HY4.out
            obtain ⟨w5, rfl⟩ : ∃ w5 : World, w5 = w4 := ⟨_, rfl⟩
            have HOLT := Lib.hid HG4.out
            have HS5 : Hid (SrcIn w5 sb (2 + 10 * zss.length + ys.length + 1)) := HS4.out
            have HG5 := Lib.hid (grown_trans HG.out HG4.out)
            have hsz5 := HG5.out.size
            clear hyn
            obtain ⟨v0, rs, k00, k01, g01, ho0⟩ := HO.out
            have k0 := cell_src k00 HOLT.out hne1
            have k1 := cell_src k01 HOLT.out hne1
            have g1 := frozen_src lobo g01 HOLT.out hne1
            have ho := ho0.src HOLT.out (by omega)
            obtain ⟨av, mv, cv, rfl, HMv⟩ := own_shape ho.outer
            have lob5 : w1.heap.size < w5.heap.size := block_lt_of_cell k0
            have HOW := Lib.hid ho
            have hou := ho.outer
            have HOU := Lib.hid hou
            have hwo5 : w1.heap.size + 1 ≤ wo.heap.size := lobo
            have HAP := Lib.hid (apart_rows HROW.out ho0)
            clear hou ho HMv k00 k01 g01 ho0
            go_wp2_with (at_builtin; refine wpList_push elem_ints rfl (.tmp 49) (.tmp 51) rfl (w1.heap.size + 1) rfl HOU.out _ rfl rfl (by unfold maxLen; omega) (by omega) (by omega) ?_; intro v6 w6 ho6 hg6 hs6; obtain ⟨a6, m6, c6, rfl, HM6⟩ := own_shape ho6; have rc0 := grown_cell hg6 HOU.out (by omega) k0; have rc1 := grown_cell hg6 HOU.out (by omega) k1; have rc2 := grown_frozen hg6 HOU.out (by omega) k1 g1; have lob6 : w1.heap.size < w6.heap.size := block_lt_of_cell rc1)
            have hout := OutAt.pushed HOW.out k0 k1 g1 (by omega) hg6 ho6 HROW.out hwo5 HAP.out
            have HOUT := Lib.hid hout
            have hblk6 : ∀ g, Value.ownBlock (.slice av mv cv) = some g → w1.heap.size ≤ g := fun g hg => by have := (own_block HOU.out hg).1; omega
            have HS6 := Lib.hid ((HS5.out.grown hg6 (fun g hg => by have := hblk6 g hg; omega)).grown (grown_set _ _ _ _) (fun g hg => by injection hg with hg; omega) : SrcIn (w6.setCell ⟨w1.heap.size, 1, none⟩ (.slice a6 m6 c6)) sb _)
            have HG6 := Lib.hid (grown_new (grown_new HG5.out hg6 (fun g hg => .inl (hblk6 g hg))) (grown_set w6 w1.heap.size 1 (.slice a6 m6 c6)) (fun g hg => .inl (by injection hg with hg; omega)))
            clear hout ho6 hg6 hs6 hblk6
            go_wp2
            go_roundw
            case rel =>
              refine ⟨k - 1, zss ++ [ys], (by rw [List.length_append, List.length_singleton]; omega), (by congr 1; omega), HOUT.out, ?_, ?_, HG6.out⟩
              · intro r hr
                rcases List.mem_append.1 hr with h | h
                · exact HR.out r h
                · rw [List.mem_singleton] at h; subst h; exact HYS.out
              · exact HS6.out.mono (by rw [List.length_append, List.length_singleton]; omega)
            case measure => simp [intOf]; omega
          | true =>
            have hr4 := HY4.out
            have hd0 := hr4.cellAt (n - 1) (by omega)
            have hyn1 : n - 1 < ys.length := by omega
            have hd1 : w4.cell? ⟨rg, n - 1, none⟩ = some (.int .i64 ys[n - 1]) := by rw [hd0]; simp [hyn1]
            have hf0 := hr4.frozenAt 0
            have hc0 : ∃ u, w4.cell? ⟨rg, 0, none⟩ = some u := by
              have := hr4.cellAt 0 (by omega)
              rw [this]
              exact ⟨.int .i64 (ys[0]'(by omega)), by simp [show 0 < ys.length by omega]⟩
            obtain ⟨u0, hu0⟩ := hc0
            obtain ⟨zl, hzl2⟩ : ∃ zl, zl = ys[n - 1] := ⟨_, rfl⟩
            rw [← hzl2] at hd1
            have HZL : Hid (0 ≤ zl ∧ zl < (n : Int)) := by unfold Hid; rw [hzl2]; exact HZ.out _ (List.getElem_mem hyn1)
            have hst := hr4.stored 0 (.int .i64 zl)
            have HST := Lib.hid hst
            have j0 := idx_at Tryz.underlying45 size1_int (ao := some ⟨rg, 0, none⟩) (b := rg) (o := 0) (n := n) (c := rcap) (fun _ => rfl) (show n - 1 < n by omega) .i64 ((n : Int) - 1) (by omega)
            have j1 := idx_at Tryz.underlying45 size1_int (ao := some ⟨rg, 0, none⟩) (b := rg) (o := 0) (n := n) (c := rcap) (fun _ => rfl) (show 0 < n by omega) .i64 0 rfl
            rw [Nat.zero_add] at j0
            have lrg : rg < w4.heap.size := block_lt_of_cell hd1
            have lrg2 : wo.heap.size ≤ rg := (own_block hr4 rfl).1
            obtain ⟨YS, hYS⟩ : ∃ YS, YS = ys.set 0 zl := ⟨_, rfl⟩
            have hYSl : YS.length = n := by rw [hYS, List.length_set, hyn]
            have HYS : Hid (YS.length = n ∧ ∀ z ∈ YS, 0 ≤ z ∧ z < (n : Int)) := ⟨hYSl, fun z hz => by
              rw [hYS] at hz
              rcases List.mem_or_eq_of_mem_set hz with h | h
              · exact HZ.out z h
              · rw [h]; exact HZL.out⟩
            have HROW0 : Hid ((w4.setCell ⟨rg, 0, none⟩ (.int .i64 zl)).ownsRow wo.heap.size 2 1 (.slice (some ⟨rg, 0, none⟩) n rcap) YS.length (YS.map (Value.int .i64))) := by
              unfold Hid
              rw [hYSl, hYS, List.map_set]
              exact HST.out.1
            have HG5' : Hid (wo.grownBy (w4.setCell ⟨rg, 0, none⟩ (.int .i64 zl)) (some sb)) := grown_new HG4.out HST.out.2 (fun g hg => .inl (by injection hg with hg; omega))
            have HS5' : Hid (SrcIn (w4.setCell ⟨rg, 0, none⟩ (.int .i64 zl)) sb (2 + 10 * zss.length + ys.length + 1)) := HS4.out.grown HST.out.2 (fun g hg => by injection hg with hg; omega)
            clear hr4 hd0 hst hzl2 hYS
            go_upto_region 12 with fail
            generalize w4.setCell ⟨rg, 0, none⟩ (.int .i64 zl) = w5 at HROW0 HG5' HS5' ⊢
            have HROW := HROW0
            have HOLT := Lib.hid HG5'.out
            have HS5 := HS5'
            have HG5 := Lib.hid (grown_trans HG.out HG5'.out)
            have hsz5 := HG5.out.size
            clear hd1 hf0 hu0 j0 j1 hyn1 hYSl hyn
            obtain ⟨v0, rs, k00, k01, g01, ho0⟩ := HO.out
            have k0 := cell_src k00 HOLT.out hne1
            have k1 := cell_src k01 HOLT.out hne1
            have g1 := frozen_src lobo g01 HOLT.out hne1
            have ho := ho0.src HOLT.out (by omega)
            obtain ⟨av, mv, cv, rfl, HMv⟩ := own_shape ho.outer
            have lob5 : w1.heap.size < w5.heap.size := block_lt_of_cell k0
            have HOW := Lib.hid ho
            have hou := ho.outer
            have HOU := Lib.hid hou
            have hwo5 : w1.heap.size + 1 ≤ wo.heap.size := lobo
            have HAP := Lib.hid (apart_rows HROW.out ho0)
            clear hou ho HMv k00 k01 g01 ho0
            go_wp2_with (at_builtin; refine wpList_push elem_ints rfl (.tmp 49) (.tmp 51) rfl (w1.heap.size + 1) rfl HOU.out _ rfl rfl (by unfold maxLen; omega) (by omega) (by omega) ?_; intro v6 w6 ho6 hg6 hs6; obtain ⟨a6, m6, c6, rfl, HM6⟩ := own_shape ho6; have rc0 := grown_cell hg6 HOU.out (by omega) k0; have rc1 := grown_cell hg6 HOU.out (by omega) k1; have rc2 := grown_frozen hg6 HOU.out (by omega) k1 g1; have lob6 : w1.heap.size < w6.heap.size := block_lt_of_cell rc1)
            have hout := OutAt.pushed HOW.out k0 k1 g1 (by omega) hg6 ho6 HROW.out hwo5 HAP.out
            have HOUT := Lib.hid hout
            have hblk6 : ∀ g, Value.ownBlock (.slice av mv cv) = some g → w1.heap.size ≤ g := fun g hg => by have := (own_block HOU.out hg).1; omega
            have HS6 := Lib.hid ((HS5.out.grown hg6 (fun g hg => by have := hblk6 g hg; omega)).grown (grown_set _ _ _ _) (fun g hg => by injection hg with hg; omega) : SrcIn (w6.setCell ⟨w1.heap.size, 1, none⟩ (.slice a6 m6 c6)) sb _)
            have HG6 := Lib.hid (grown_new (grown_new HG5.out hg6 (fun g hg => .inl (hblk6 g hg))) (grown_set w6 w1.heap.size 1 (.slice a6 m6 c6)) (fun g hg => .inl (by injection hg with hg; omega)))
            clear hout ho6 hg6 hs6 hblk6
            go_wp2
            go_roundw
            case rel =>
              refine ⟨k - 1, zss ++ [YS], (by rw [List.length_append, List.length_singleton]; omega), (by congr 1; omega), HOUT.out, ?_, ?_, HG6.out⟩
              · intro r hr
                rcases List.mem_append.1 hr with h | h
                · exact HR.out r h
                · rw [List.mem_singleton] at h; subst h; exact HYS.out
              · exact HS6.out.mono (by rw [List.length_append, List.length_singleton]; omega)
            case measure => simp [intOf]; omega
    · obtain rfl : k = 0 := by omega
      obtain rfl : zss.length = K := by omega
      have hkI : ¬ ((0 : Int) < ((0 : Nat) : Int)) := by omega
      go_wp2_with fail
      refine (HPK.out _ _ 5 HS.out (by omega) (by omega)).mono ?_
      rintro e w3 ⟨y, rfl, hyy0, hyy1, hs3, hg3, hz3⟩
      have HO3 := Lib.hid (OutAt.src HO.out hg3 (by omega) hne1)
      have HG3 := Lib.hid (grown_trans HG.out hg3)
      have HS3 := Lib.hid hs3
      have hyy5 := hyy1 (by omega)
      obtain ⟨L, hL⟩ : ∃ L, L = zss.length := ⟨_, rfl⟩
      obtain ⟨J, rfl⟩ : ∃ J : Nat, y = (J : Int) := ⟨y.toNat, by omega⟩
      have hJ4 : J ≤ 4 := by omega
      have HR3 : Hid (∀ r ∈ zss, r.length = n ∧ ∀ z ∈ r, -1 ≤ z ∧ z < (n : Int)) := fun r hr => ⟨(HR.out r hr).1, fun z hz => by have := (HR.out r hr).2 z hz; omega⟩
      have hS60 : Hid (SrcIn w3 sb (60 - 2 * J)) := HS3.out.mono (by omega)
      rw [← hL] at hK1 hK3
      have HZL := Lib.hid hL
      clear hyy0 hyy1 hyy5 hs3 hg3 hz3 hL HO HG HR HS HS3 hzl hkI
      go_wp2
      go_loopw [11] (fun i wr => ∃ (j : Nat) (zss' : List (List Int)), j ≤ 4 ∧ zss'.length = L ∧ i = .int .i64 j ∧ Hid (OutAt wr w1.heap.size (w1.heap.size + 1) n zss') ∧ Hid (∀ r ∈ zss', r.length = n ∧ ∀ z ∈ r, -1 ≤ z ∧ z < (n : Int)) ∧ Hid (SrcIn wr sb (60 - 2 * j)) ∧ Hid (w1.grownBy wr (some sb))) (fun i _ => (intOf i).toNat)
      case atStart => exact ⟨J, zss, hJ4, HZL.out.symm, rfl, HO3.out, HR3.out, hS60.out, HG3.out⟩
      case round =>
        obtain ⟨j, zs2, hj4, hzl2, rfl, HO, HR, HS, HG⟩ := hrel
        obtain ⟨v0, rs, k0, k1, g1, ho⟩ := HO.out
        have hou := ho.outer
        rw [hzl2] at hou
        obtain ⟨ag, ac, rfl, _⟩ := own_some hou hK1
        have hag : w1.heap.size + 1 ≤ ag := (own_block hou rfl).1
        have lobr : w1.heap.size < wr.heap.size := block_lt_of_cell k0
        by_cases hj : 0 < j
        · have hjI : (0 : Int) < (j : Int) := by omega
          have hags : ag ≠ sb := by omega
          have HOW := Lib.hid ho
          have HOU := Lib.hid hou
          have HPA := Lib.hid (HPK.out (60 - 2 * j) wr (L : Int) HS.out (by omega) (by omega))
          have HPAd := Lib.hid (HPK.out (60 - 2 * j) wr.drew (L : Int) HS.out (by omega) (by omega))
          have HRL := Lib.hid (fun la (hla : la < L) => (HR.out _ (getD_mem (d := []) (show la < zs2.length by omega))).1)
          clear ho hou HO
          go_wp2
          go_region_law
            (first
              | (go_simp; go_at_call 43; (with_reducible first | refine HPA.out.mono ?_ | refine HPAd.out.mono ?_); rintro e wa ⟨ya, rfl, hya0, hya1, hsa, hga, hza⟩; obtain ⟨la, rfl⟩ : ∃ la : Nat, ya = (la : Int) := ⟨ya.toNat, by omega⟩; have hla : la < L := (by have := hya1 (by omega); omega); have hga' : wr.grownBy wa (some sb) := ⟨hga.os, hga.tape, hga.output, hga.size, hga.block⟩; have a0 := cell_src k0 hga' hne1; have a1 := cell_src k1 hga' hne1; have HAW := Lib.hid (HOW.out.src hga' (by omega)); obtain ⟨rg, rc, hrv, hrc⟩ := own_some (HAW.out.row la (by omega)) (by rw [HRL.out la hla]; exact hn1); rw [HRL.out la hla] at hrv; have ea : wa.cell? ⟨ag, la, none⟩ = some (.slice (some ⟨rg, 0, none⟩) n rc) := (by have h1 := HAW.out.outer; rw [hzl2] at h1; have h2 := h1.1; rw [h1.cellAt la (by omega), ← hrv]; simp [List.getD_eq_getElem?_getD, show la < rs.length by omega]); have hrow : wa.ownsRow (w1.heap.size + 1) 2 1 (.slice (some ⟨rg, 0, none⟩) n rc) n ((zs2.getD la []).map (Value.int .i64)) := (by have h1 := HAW.out.row la (by omega); rw [HRL.out la hla, hrv] at h1; exact h1); have hrg : w1.heap.size + 1 ≤ rg := (own_block hrow rfl).1; have ia := idx_of Tryz.underlying24 size1_ints (ao := some ⟨ag, 0, none⟩) (b := ag) (o := 0) (n := L) (c := ac) (fun _ => rfl) hla .i64; rw [Nat.zero_add] at ia; have HROWA := Lib.hid hrow; have HRV := Lib.hid hrv; have HSA := Lib.hid (HPK.out _ wa (n : Int) hsa (by omega) (by omega)); have HSAd := Lib.hid (HPK.out _ wa.drew (n : Int) hsa (by omega) (by omega)); have HGA := Lib.hid hga'; have lag := block_lt_of_cell ea; have lpa := block_lt_of_cell a0; clear hrow hrv hsa hga hga' hya1 hza)
              | (go_simp; go_at_call 43; (with_reducible first | refine HSA.out.mono ?_ | refine HSAd.out.mono ?_); rintro e wb ⟨yb, rfl, hyb0, hyb1, hsb', hgb, hzb⟩; obtain ⟨ib, rfl⟩ : ∃ ib : Nat, yb = (ib : Int) := ⟨yb.toNat, by omega⟩; have hib : ib < n := (by have := hyb1 (by omega); omega); have hgb' : wa.grownBy wb (some sb) := ⟨hgb.os, hgb.tape, hgb.output, hgb.size, hgb.block⟩; have b0 := cell_src a0 hgb' hne1; have b1' := cell_src a1 hgb' hne1; have eb := cell_src ea hgb' hags; have hrowb := own_src HROWA.out hgb' (by omega); have hbx := hrowb.1; have hbc := hrowb.cellAt ib (by omega); have hbf := hrowb.frozenAt ib; have hsome : (wb.cell? ⟨rg, ib, none⟩).isSome = true := (by rw [hbc]; exact Option.isSome_iff_exists.2 ⟨_, List.getElem?_eq_getElem (by omega)⟩); obtain ⟨ub, hub⟩ := Option.isSome_iff_exists.1 hsome; have ibx := idx_of Tryz.underlying45 size1_int (ao := some ⟨rg, 0, none⟩) (b := rg) (o := 0) (n := n) (c := rc) (fun _ => rfl) hib .i64; rw [Nat.zero_add] at ibx; have HROWB := Lib.hid hrowb; have HSB := Lib.hid hsb'; have HGB := Lib.hid (grown_trans HGA.out hgb'); have lrb := block_lt_of_cell hub; have lagb := block_lt_of_cell eb; clear hrowb hsb' hgb hgb' hyb1 hzb hsome hbc hbx))
          all_goals
            have hst := HROWB.out.stored ib (.int .i64 (-1))
            have HOB := Lib.hid (HOW.out.src HGB.out (by omega))
            have hla2 : la < zs2.length := by omega
            have hnw := HOB.out.turned (k := la) hla2 (ys := (zs2.getD la []).set ib (-1)) (by simp) (by rw [HRV.out]; exact hst.2) (by rw [HRV.out, List.length_set, HRL.out la hla, List.map_set]; exact hst.1)
            have HNW := Lib.hid hnw
            have hne3 : w1.heap.size ≠ rg := by omega
            have HO9 : Hid (OutAt (wb.setCell ⟨rg, ib, none⟩ (.int .i64 (-1))) w1.heap.size (w1.heap.size + 1) n (zs2.set la ((zs2.getD la []).set ib (-1)))) := ⟨_, rs, cell_src b0 hst.2 hne3, cell_src b1' hst.2 hne3, frozen_src (block_lt_of_cell b0) (frozen_src lobr g1 HGB.out hne1) hst.2 hne3, hnw⟩
            have HS9 : Hid (SrcIn (wb.setCell ⟨rg, ib, none⟩ (.int .i64 (-1))) sb (60 - 2 * (j - 1))) := (HSB.out.grown hst.2 (fun g hg => by injection hg with hg; omega)).mono (by omega)
            have HG9 := Lib.hid (grown_new (grown_trans HG.out HGB.out) hst.2 (fun g hg => .inl (by injection hg with hg; omega)))
            have HR9 : Hid (∀ r ∈ zs2.set la ((zs2.getD la []).set ib (-1)), r.length = n ∧ ∀ z ∈ r, -1 ≤ z ∧ z < (n : Int)) := fun r hr => by
              rcases List.mem_or_eq_of_mem_set hr with h | h
              · exact HR.out r h
              · subst h
                have hm := HR.out _ (getD_mem (d := []) hla2)
                refine ⟨by rw [List.length_set]; exact hm.1, fun z hz => ?_⟩
                rcases List.mem_or_eq_of_mem_set hz with h2 | h2
                · exact hm.2 z h2
                · subst h2; omega
            clear hst hnw
            go_wp2
            go_roundw
            case rel => exact ⟨j - 1, _, by omega, by rw [List.length_set]; exact hzl2, (by congr 1; omega), HO9.out, HR9.out, HS9.out, HG9.out⟩
            case measure => simp [intOf]; omega
        · obtain rfl : j = 0 := by omega
          have hjI : ¬ ((0 : Int) < ((0 : Nat) : Int)) := by omega
          have r4 := cell_src q4 HG.out hne
          have r5 := cell_src q5 HG.out hne
          have t4 := frozen_src hl1 f4 HG.out hne
          have t5 := frozen_src hl1 f5 HG.out hne
          have hzr := block_lt_of_cell r4
          have HV : Hid (validP (n : Int) zs2 = true) := validP_of rfl hn1 (by omega) (by omega) (by omega) HR.out
          have HBF := Lib.hid (b1.trans (below_of_grown HG.out (by omega)))
          have HOF := Lib.hid ho
          clear ho hou
          go_wp2
          refine bodyPost_ret (v := .agg #[.int .i64 n, .slice (some ⟨ag, 0, none⟩) L ac]) (by simp [results, Tryz.results20, go_sem, r4, r5, hzr]) rfl ⟨n, _, rs, zs2, rfl, ?_, HV.out, ?_⟩
          · refine OwnRows.mono (lo := w1.heap.size + 1) ?_ (by omega)
            repeat (first | exact HOF.out | refine OwnRows.set_below ?_ (by first | omega | simp) _ _)
          · exact (HBF.out.setCell (p := ⟨w.heap.size, 0, none⟩) (by show sb ≤ w.heap.size; omega) _).setCell (p := ⟨w.heap.size, 1, none⟩) (by show sb ≤ w.heap.size; omega) _
end Go.Proofs.YtfdacodbiodiaaaGreatDoor
