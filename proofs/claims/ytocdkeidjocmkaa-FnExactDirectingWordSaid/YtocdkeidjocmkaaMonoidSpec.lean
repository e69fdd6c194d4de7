/- MonoidOf of the reference. -/
import Derived.Test.YtocdkeidjocmkaaMonoidMid
import Derived.Test.YtocdkeidjocmkaaSpecOk
import Derived.Test.YtocdkeidjocmkaaTourS
namespace Go.Proofs.Ytocdkeidjocmkaa
set_option linter.unusedVariables false
set_option linter.unusedSimpArgs false
open Go.ChangeShapes Go.WideShapes Go.ChangeAt Go.RowKit

theorem l00OwnW_any (b o n c : Nat) (xs : List Int) (w : World) (hn : n = xs.length) (h1 : ∀ k, k < xs.length → w.cell? ⟨b, o + k, none⟩ = some (.int .i64 (xs.getD k 0))) (hl : xs.length ≤ 1048576) : Calls Try.prog 72 #[.slice (some ⟨b, o, none⟩) n c] w (NewInts xs w) := by
  subst hn
  have HE := Lib.hid (own_empty w w.heap.size (Nat.le_refl _) 2)
  have HC : Hid (∀ j u, (xs.map (Value.int .i64))[j]? = some u → w.cell? ((⟨b, o, none⟩ : Addr).add j) = some u) := by
    intro j u hj
    have hjl : j < xs.length := by have := (List.getElem?_eq_some_iff.1 hj).1; simpa using this
    rw [add_plain', h1 j hjl]
    simp [List.getD_eq_getElem?_getD, hjl] at hj ⊢
    exact hj
  clear h1
  go_enter Try.func72, Try.ntmps72
  go_wp2_with (at_builtin; refine wpList_appendE elem_int rfl (.tmp 3) (.tmp 4) rfl w.heap.size rfl HE.out ⟨b, o, none⟩ xs.length c (xs.map (Value.int .i64)) rfl (by simp) (fun j u hj => Lib.cell?_alloc_some _ (HC.out j u hj)) (fun u hu => by obtain ⟨x, _, rfl⟩ := List.mem_map.1 hu; rfl) (by unfold maxLen; omega) (by omega) (by simp) ?_; intro v' w1 hown hgr hs)
  go_wp2
  go_ret
  refine ⟨v', rfl, by simpa using hown, ?_⟩
  exact (below_alloc (Below.refl _ w) _).grown hgr (by simp) (fun g hg => (own_block HE.out hg).1)

theorem rows_atM {w : World} {v : Value} {xss : List (List Int)} (h : Rows2 w v xss) {x : Nat} (hx : x < xss.length) {n : Nat} (hn : (xss.getD x []).length = n) (h0 : 0 < n) : ∃ ab ao ac rb ro rc, v = .slice (some ⟨ab, ao, none⟩) xss.length ac ∧ w.cell? ⟨ab, ao + x, none⟩ = some (.slice (some ⟨rb, ro, none⟩) n rc) ∧ ∀ i, i < n → w.cell? ⟨rb, ro + i, none⟩ = some (.int .i64 ((xss.getD x []).getD i 0)) := by
  obtain ⟨ad, ab, ao, ac, H⟩ := h.open
  obtain ⟨r, d, hr⟩ := H.cell x hx
  obtain ⟨rd, rb, ro, rc, R⟩ := hr.open
  have e1 := H.adr (by omega)
  have e2 := R.adr (by omega)
  refine ⟨ab, ao, ac, rb, ro, rc, by rw [H.val, e1], ?_, fun i hi => R.cell i (by omega)⟩
  rw [d, R.val, e2, hn]
/-- the actions of all words; whether they are not too many -/
def MonPost (M : Mon) (w : World) (e : Ending) (w' : World) : Prop :=
  ∃ v v2, e = .returned (.tuple #[v, v2, .bool (decide (M.length ≤ 400))]) ∧ (M.length ≤ 400 → ∃ rs, OwnRows w' w.heap.size v rs M.keys) ∧ Below w.heap.size w w'
theorem actBy_snoc {row a : List Int} {s : Nat} (h : s < a.length) : ((actBy row a).take s).map (Value.int .i64) ++ [.int .i64 (row.getD (a.getD s 0).toNat 0)] = ((actBy row a).take (s + 1)).map (Value.int .i64) := by
  have h2 : s < (actBy row a).length := by simp [actBy, h]
  rw [List.take_succ_eq_append_getElem h2, List.map_append]
  simp [actBy, List.getD_eq_getElem?_getD, h]

set_option maxRecDepth 100000 in
set_option maxHeartbeats 8000000 in
theorem l01Monoid_any (b : Nat) (v : Value) (xss : List (List Int)) (n : Nat) (w : World) (d0 : w.cell? ⟨b, 0, none⟩ = some (.int .i64 n)) (d1 : w.cell? ⟨b, 1, none⟩ = some v) (h1 : Rows2 w v xss) (hg : Good n n xss) :
    Calls Try.prog 56 #[.pointer (some ⟨b, 0, none⟩)] w (MonPost (monT xss n) w) := by
  have hn10 := hg.hi
  have HSTOP0 := Lib.hid (fun k => monT_stop (rows := xss) (n := n) (i := k))
  have HMANY0 := Lib.hid (fun k => monT_many (rows := xss) (n := n) (i := k))
  generalize monT xss n = M at HSTOP0 HMANY0 ⊢
  have hn1 := hg.lo
  have hl1 := hg.len1
  have hl3 := hg.len3
  have HG := Lib.hid hg
  have HGM := Lib.hid (fun i => GoodM.outer hg i)
  have H1 := Lib.hid h1
  have HALL := Lib.hid (fun W => l01AllRun_any n W hn10)
  obtain ⟨ao, m, c, rfl, HM⟩ := h1.shape
  have hmx : m = xss.length := HM.out
  clear h1 hg
  go_enter Try.func56, Try.ntmps56
  go_wp2_with fail
  refine (HALL.out _).mono ?_
  rintro e w2 ⟨v2, rfl, ho2, hb2⟩
  obtain ⟨a2, m2, c2, rfl, HM2⟩ := own_shape ho2
  obtain ⟨W4, hW4⟩ : ∃ W4, W4 = ((w2.alloc (.cells #[.slice a2 m2 c2] 55)).alloc (.cells #[] 2)).alloc (.cells #[.slice (some ⟨w2.heap.size + 1, 0, none⟩) 0 0] 55) := ⟨_, rfl⟩
  have hb4 : Below w2.heap.size w2 W4 := by rw [hW4]; exact below_alloc (below_alloc (below_alloc (Below.refl _ _) _) _) _
  have ws : W4.ownsRow w.heap.size 55 1 (.slice (some ⟨w2.heap.size, 0, none⟩) 1 1) 1 [.slice a2 m2 c2] := by
    rw [hW4]
    exact ((World.ownsRow_lit (base := w.heap.size) (size := 1) (e := 55) w2 #[.slice a2 m2 c2] 1 hb2.size (by unfold maxLen; omega) (by simp)).alloc _).alloc _
  have wr0 : W4.ownsRow w.heap.size 55 1 (.slice (some ⟨w2.heap.size + 1 + 1, 0, none⟩) 1 1) 1 [.slice (some ⟨w2.heap.size + 1, 0, none⟩) 0 0] := by
    rw [hW4]
    have := World.ownsRow_lit (base := w.heap.size) (size := 1) (e := 55) ((w2.alloc (.cells #[.slice a2 m2 c2] 55)).alloc (.cells #[] 2)) #[.slice (some ⟨w2.heap.size + 1, 0, none⟩) 0 0] 1 (by have := hb2.size; simp; omega) (by unfold maxLen; omega) (by simp)
    simpa using this
  have we : W4.ownsRow w.heap.size 2 1 (.slice (some ⟨w2.heap.size + 1, 0, none⟩) 0 0) 0 [] := by
    rw [hW4]
    have := (own_empty (w2.alloc (.cells #[.slice a2 m2 c2] 55)) w.heap.size (by have := hb2.size; simp; omega) 2).alloc (.cells #[.slice (some ⟨w2.heap.size + 1, 0, none⟩) 0 0] 55)
    simpa using this
  have hA : OwnRows W4 w.heap.size (.slice (some ⟨w2.heap.size, 0, none⟩) 1 1) [.slice a2 m2 c2] [run 0 n] :=
    ⟨ws, fun k hk => by simp at hk; subst hk; exact own_below ho2 hb4, fun i j h1 h2 => by simp at h2; omega⟩
  have hO : OwnRows W4 w.heap.size (.slice (some ⟨w2.heap.size + 1 + 1, 0, none⟩) 1 1) [.slice (some ⟨w2.heap.size + 1, 0, none⟩) 0 0] [[]] :=
    ⟨wr0, fun k hk => by simp at hk; subst hk; exact we, fun i j h1 h2 => by simp at h2; omega⟩
  have hM : MMid w W4 w.heap.size (.slice (some ⟨w2.heap.size, 0, none⟩) 1 1) (.slice (some ⟨w2.heap.size + 1 + 1, 0, none⟩) 1 1) [run 0 n] [[]] :=
    ⟨⟨_, hA⟩, ⟨_, hO, fun k hk => by simp at hk; subst hk; simp [Value.ownBlock]⟩, .inr (by simp [Value.ownBlock]; omega), hb2.trans (hb4.mono hb2.size), Nat.le_trans hb2.size hb4.size⟩
  have HMM : Hid (MMid w W4 w.heap.size (.slice (some ⟨w2.heap.size, 0, none⟩) 1 1) (.slice (some ⟨w2.heap.size + 1 + 1, 0, none⟩) 1 1) (outerM xss n 0).keys ((outerM xss n 0).map Prod.snd)) := hM
  clear hM hO hA we wr0 ws hb4 ho2 hb2
  rw [hW4] at HMM
  clear hW4
  go_wp2
  go_loopw [5, 6, 7] (fun av wv i wr => ∃ k : Nat, k ≤ (outerM xss n k).length ∧ (outerM xss n k).length ≤ 400 ∧ i = .int .i64 k ∧ Hid (MMid w wr w.heap.size av wv (outerM xss n k).keys ((outerM xss n k).map Prod.snd))) (fun _ _ i _ => 1024 - (intOf i).toNat)
  case atStart => exact ⟨0, Nat.zero_le _, by simp [outerM_zero], rfl, HMM.out⟩
  case round =>
    obtain ⟨k, hk, h400, rfl, HI⟩ := hrel
    have hpos := outerM_pos xss n k
    have HRD := Lib.hid (fun (h : k < (outerM xss n k).length) => outerM_round h)
    have HSTOP := Lib.hid (HSTOP0.out k)
    have HMANY := Lib.hid (HMANY0.out k)
    have HGT := Lib.hid (HGM.out k)
    obtain ⟨T, hT⟩ : ∃ T, T = outerM xss n k := ⟨_, rfl⟩
    rw [← hT] at hk h400 HI hpos HRD HSTOP HMANY HGT
    have HT := Lib.hid hT
    clear hT
    obtain ⟨⟨rsA, hA⟩, ⟨rsW, hW, hnn⟩, hap, hbw, hlo⟩ := HI.out
    obtain ⟨ag, ac, rfl, _⟩ := own_some hA.outer (by rw [Mon.keys_len]; exact hpos)
    obtain ⟨wg, wc, rfl, _⟩ := own_some hW.outer (by rw [List.length_map]; exact hpos)
    rw [Mon.keys_len] at hA
    rw [List.length_map] at hW
    rw [Mon.keys_len, List.length_map]
    rw [Mon.keys_len, List.length_map] at HI
    clear hA hW hnn hap
    by_cases hlt : k < T.length
    · go_wp2
      go_loopw [5, 6, 8] (fun av wv i wr => ∃ x : Nat, x ≤ xss.length ∧ i = .int .i64 x ∧ Hid (MMid w wr w.heap.size av wv (innerM xss k T x).keys ((innerM xss k T x).map Prod.snd))) (fun _ _ i _ => xss.length - (intOf i).toNat)
      case atStart => exact ⟨0, Nat.zero_le _, rfl, HI.out⟩
      case round =>
        obtain ⟨x, hx, rfl, HX⟩ := hrel
        have hgx := GoodM.inner HG.out HGT.out hlt x hx
        have hTx := innerM_len xss k T x
        have hatx := innerM_at xss k T x hlt
        have HSTX := Lib.hid (innerM_succ xss k T x)
        have HEND := Lib.hid (fun (h : x = xss.length) => (show innerM xss k T x = innerM xss k T xss.length by rw [h]))
        obtain ⟨U, hU⟩ : ∃ U, U = innerM xss k T x := ⟨_, rfl⟩
        rw [← hU] at HX hgx hTx hatx HSTX HEND
        have hUk : k < U.length := by omega
        have hU4 : U.length ≤ 403 := by omega
        clear hU
        obtain ⟨⟨rsA, hA⟩, ⟨rsW, hW, hnn⟩, hap, hbw, hlo⟩ := HX.out
        obtain ⟨ag2, ac2, rfl, _⟩ := own_some hA.outer (by rw [Mon.keys_len]; omega)
        obtain ⟨wg2, wc2, rfl, _⟩ := own_some hW.outer (by rw [List.length_map]; omega)
        rw [Mon.keys_len, List.length_map] at HX
        rw [Mon.keys_len, List.length_map]
        have q1 := below_cell hbw d1
        by_cases hltx : x < xss.length
        · obtain ⟨wo, rfl⟩ : ∃ wo : World, wo = wr := ⟨_, rfl⟩
          have hkey := hgx.key _ (Mon.at_mem hUk)
          have hwl := hgx.word _ (Mon.at_mem hUk)
          have hka := Mon.keys_at hUk
          have hnA : (rsA.getD k undef).ownBlock ≠ none := by
            have h := hA.row k (by rw [Mon.keys_len]; exact hUk)
            rw [hka, hkey.1] at h
            obtain ⟨g, cc, e, _⟩ := own_some h hn1
            rw [e]; simp [Value.ownBlock]
          obtain ⟨rg, rc, e1, e2⟩ := own_row_at hA (by rw [Mon.keys_len]; exact hUk) hnA
          rw [hka, hkey.1] at e1 e2
          obtain ⟨ro1, ro2, ro3, sb, so, sc, hv, g1, g2⟩ := rows_atM H1.out hltx (HG.out.row hltx) hn1
          injection hv with hv1 hv2 hv3
          subst hv1 hv3
          replace g1 := below_cell hbw g1
          have i1 := idx_of Try.underlying22 size1_ints (ao := some ⟨ag2, 0, none⟩) (b := ag2) (o := 0) (n := U.length) (c := ac2) (fun _ => rfl) hUk .i64
          have i2 := idx_of Try.underlying22 size1_ints (ao := some ⟨ro1, ro2, none⟩) (b := ro1) (o := ro2) (n := m) (c := c) (fun _ => rfl) (show x < m by omega) .i64
          rw [Nat.zero_add] at i1
          have hstep : stepM xss k U x = if actBy (xss.getD x []) (T.at k).1 ∈ U.keys then U else U ++ [(actBy (xss.getD x []) (T.at k).1, (T.at k).2 ++ [(x : Int)])] := by unfold stepM; rw [hatx]
          have hag := actBy_good HG.out hltx hkey
          have HVAL := Lib.hid (fun s (hs : s < n) => HG.out.val hltx hs)
          rw [hatx] at e2 hkey hag hwl
          obtain ⟨ak, hak⟩ : ∃ ak, ak = (T.at k).1 := ⟨_, rfl⟩
          rw [← hak] at e2 hkey hag hstep
          have HSNOC := Lib.hid (fun s (h : s < ak.length) => actBy_snoc (row := xss.getD x []) h)
          obtain ⟨row, hrow⟩ : ∃ row, row = xss.getD x [] := ⟨_, rfl⟩
          rw [← hrow] at g2 hag hstep HVAL HSNOC
          obtain ⟨zs, hzs⟩ : ∃ zs, zs = (T.at k).2 := ⟨_, rfl⟩
          rw [← hzs] at hstep hwl
          obtain ⟨y, hy⟩ : ∃ y, y = actBy row ak := ⟨_, rfl⟩
          rw [← hy] at hag hstep HSNOC
          have HE2 := Lib.hid (fun j (hj : j < n) => e2 j hj)
          have HG2 := Lib.hid (fun j (hj : j < n) => below_cell hbw (g2 j hj))
          have hkr : Hid (∀ z ∈ ak, 0 ≤ z ∧ z < (n : Int)) := hkey.2
          have hkl : ak.length = n := hkey.1
          have HSTP := Lib.hid hstep
          have HATX := Lib.hid hatx
          have HZS := Lib.hid hzs
          have HYL := Lib.hid hag.1
          have HEM := Lib.hid (own_empty wo wo.heap.size (Nat.le_refl _) 2)
          have hbe : Below wo.heap.size wo (wo.alloc (.cells #[] 2)) := below_alloc (Below.refl _ _) _
          have hA2 := hA
          rw [Mon.keys_len] at hA2
          have HHA := Lib.hid hA2
          clear hA2
          have HNN := Lib.hid hnn
          have HLN : Hid (ak.length = n) := hkl
          clear hA hW hnn hap hnA hka hgx e2 g2 hkey hag hstep hak hrow hzs hy hatx hv2 hkl hTx
          have lb1 := block_lt_of_cell q1
          have le1 := block_lt_of_cell e1
          have lg1 := block_lt_of_cell g1
          go_wp2
          go_loopw [9, 10] (fun u i wr => ∃ s : Nat, s ≤ n ∧ i = .int .i64 s ∧ Hid (wr.ownsRow wo.heap.size 2 1 u s ((y.take s).map (Value.int .i64))) ∧ Below wo.heap.size wo wr) (fun _ i _ => n - (intOf i).toNat)
          case atStart => exact ⟨0, Nat.zero_le _, rfl, HEM.out, hbe⟩
          case round =>
            obtain ⟨s, hs, rfl, HO, hb⟩ := hrel
            have r1 := below_cell hb e1
            by_cases hlts : s < n
            · have hz := hkr.out _ (show ak.getD s 0 ∈ ak from mem_getD (by rw [HLN.out]; exact hlts))
              obtain ⟨z, hzz⟩ : ∃ z : Nat, ak.getD s 0 = z := ⟨(ak.getD s 0).toNat, by omega⟩
              have hzn : z < n := by omega
              have e3 := HE2.out s hlts
              rw [hzz] at e3
              have g3 := HG2.out z hzn
              have hsn := HSNOC.out s (by rw [HLN.out]; exact hlts)
              rw [hzz, show (z : Int).toNat = z by omega] at hsn
              obtain ⟨yz, hyz⟩ : ∃ yz, yz = row.getD z 0 := ⟨_, rfl⟩
              rw [← hyz] at g3 hsn
              have HSN := Lib.hid hsn
              have j1 := idx_of Try.underlying55 size1_int (ao := some ⟨rg, 0, none⟩) (b := rg) (o := 0) (n := n) (c := rc) (fun _ => rfl) hlts .i64
              have j2 := idx_of Try.underlying55 size1_int (ao := some ⟨sb, so, none⟩) (b := sb) (o := so) (n := n) (c := sc) (fun _ => rfl) hzn .i64
              rw [Nat.zero_add] at j1
              have le3 := block_lt_of_cell e3
              have lg3 := block_lt_of_cell g3
              clear hz hzz hyz hsn
              go_wp2
              go_region_held3 (fun w' => Below wo.heap.size wo w' ∧ ∀ b o, b < wo.heap.size → w'.cell? ⟨b, o, none⟩ = wo.cell? ⟨b, o, none⟩) (first | assumption | exact held_from hb | exact held_from (hb.alloc hb.size _) | exact held_grown hb HO.out (Nat.le_refl _) hgr)
                ((refine step_push elem_int rfl (.tmp 44) (.tmp 61) rfl wo.heap.size rfl HO.out _ rfl rfl (by unfold maxLen; omega) (by omega) hb.size ?_; intro v' w6 hown' hgr hs))
              have hb6 : Below wo.heap.size wo w6 := Below.grown hb hgr hb.size (fun g hg => (own_block HO.out hg).1)
              rw [HSN.out] at hown'
              have HOW := Lib.hid hown'
              clear hown' hgr hs
              go_wp2
              go_roundw
              case rel => exact ⟨s + 1, by omega, by go_num, HOW.out, hb6⟩
              case measure => simp [intOf]; omega
            · obtain rfl : s = n := by omega
              have ho := HO.out
              rw [List.take_of_length_le (by rw [HYL.out]; exact Nat.le_refl _)] at ho
              obtain ⟨yg, yc, rfl, _⟩ := own_some ho hn1
              have HOY := Lib.hid ho
              have HX3 := Lib.hid (HX.out.next hb)
              have HHA3 := Lib.hid (HHA.out.below hb)
              have HAPN : Hid (∀ i, i < U.keys.length → (rsA.getD i undef).ownBlock = none ∨ (rsA.getD i undef).ownBlock ≠ Value.ownBlock (.slice (some ⟨yg, 0, none⟩) s yc)) := HHA.out.apart_new ho
              have hra := HHA3.out.reads
              have HFD := Lib.hid (l01Find_any (.slice (some ⟨ag2, 0, none⟩) U.length ac2) (.slice (some ⟨yg, 0, none⟩) s yc) U.keys y wr hra (ints_of_own ho))
              have hwos := hb.size
              clear ho hra
              by_cases hin : y ∈ U.keys
              · have hf := findRow_in hin
                have hst2 := HSTP.out
                rw [if_pos hin] at hst2
                rw [hst2] at HSTX
                obtain ⟨fr, hfr⟩ : ∃ fr, fr = findRow U.keys y := ⟨_, rfl⟩
                rw [← hfr] at HFD hf
                have hdf : decide (fr < 0) = false := decide_eq_false (by omega)
                clear hin hst2 hfr
                go_wp2_with fail
                refine HFD.out.mono ?_
                rintro e w5 ⟨rfl, hq5⟩
                have HX5 := Lib.hid (HX3.out.next (hq5.below _))
                go_wp2
                go_roundw
                case rel => exact ⟨x + 1, by omega, by go_num, by rw [HSTX.out]; exact HX5.out⟩
                case measure => simp [intOf]; omega
              · rw [findRow_out hin] at HFD
                have hst2 := HSTP.out
                rw [if_neg hin] at hst2
                rw [hst2] at HSTX
                clear hin hst2
                go_wp2_with fail
                refine HFD.out.mono ?_
                rintro e w5 ⟨rfl, hq5⟩
                have HX5 := Lib.hid (HX3.out.next (hq5.below _))
                have HHA5 := Lib.hid (HHA3.out.below (hq5.below _))
                have HOY5 := Lib.hid (own_below HOY.out (hq5.below _))
                have hou := HHA5.out.outer
                rw [Mon.keys_len] at hou
                have HOU := Lib.hid hou
                have hlow5 := HX5.out.low
                clear hou
                go_upto_region 16 with (at_builtin; refine wpList_push elem_ints rfl (.tmp 67) (.tmp 69) rfl w.heap.size rfl HOU.out _ rfl rfl (by unfold maxLen; omega) (by omega) hlow5 ?_; intro v6 w6 ho6 hg6 hs6)
                have HX6 := Lib.hid (HX5.out.pushAct (ys := y) HHA5.out (by rw [HYL.out]; exact HOY5.out) (by omega) HAPN.out hg6 (by rw [Mon.keys_len]; exact ho6) hs6)
                obtain ⟨a6, m6, c6, rfl, HM6⟩ := own_shape ho6
                clear ho6 hg6 hs6
                have hX6 := HX6.out
                have hwl2 : (U.map Prod.snd).length = U.length := by simp
                rw [← hwl2] at hX6
                obtain ⟨rw6, hw6, hnn6⟩ := hX6.words
                have hkz : k < (U.map Prod.snd).length := by rw [List.length_map]; exact hUk
                obtain ⟨kg, kc, e7, e8⟩ := own_row_at hw6 hkz (hnn6 k hkz)
                rw [Mon.words_at hUk, HATX.out] at e7 e8
                rw [← HZS.out] at e7 e8
                rw [hwl2] at hw6 hX6
                have HX6b := Lib.hid hX6
                have i7 := idx_of Try.underlying22 size1_ints (ao := some ⟨wg2, 0, none⟩) (b := wg2) (o := 0) (n := U.length) (c := wc2) (fun _ => rfl) hUk .i64
                rw [Nat.zero_add] at i7
                have HOWN := Lib.hid (l00OwnW_any kg 0 zs.length kc zs w6 rfl (fun j hj => by rw [Nat.zero_add]; exact e8 j hj) (by omega))
                have HRW := Lib.hid hw6
                have HNN6 := Lib.hid hnn6
                have hlow6 := hX6.low
                clear hX6 hw6 hnn6 e8 hwl2
                go_wp2_with fail
                refine HOWN.out.mono ?_
                rintro e w7 ⟨v7, rfl, ho7, hb7⟩
                obtain ⟨a7, m7, c7, rfl, HA7⟩ := own_shape ho7
                have hsz7 := hb7.size
                have HB7 := Lib.hid hb7
                have HO7 := Lib.hid ho7
                have hou7 := fun (w8 : World) (hg8 : w7.grownBy w8 (Value.ownBlock (.slice a7 m7 c7))) => MMid.outer7 HRW.out HB7.out HO7.out hg8
                have HOUT7 := Lib.hid hou7
                clear e7 i7 hb7 ho7 hou7
                go_wp2_with (at_builtin; first | (refine wpList_push elem_int rfl (.tmp 76) (.tmp 78) rfl w6.heap.size rfl HO7.out _ rfl rfl (by unfold maxLen; omega) (by omega) hsz7 ?_; intro v8 w8 ho8 hg8 hs8; have hout8 := HOUT7.out w8 hg8; rw [List.length_map] at hout8; have HOUT8 := Lib.hid hout8; have HO8 := Lib.hid ho8; have HG8 := Lib.hid hg8; have hsz8 : w.heap.size ≤ w8.heap.size := (by have := hg8.size; omega); obtain ⟨a8, m8, c8, rfl, HA8⟩ := own_shape ho8; clear ho8 hg8 hs8 hout8) | (refine wpList_push elem_ints rfl (.tmp 71) (.tmp 80) rfl w.heap.size rfl HOUT8.out _ rfl rfl (by unfold maxLen; omega) (by omega) hsz8 ?_; intro v9 w9 ho9 hg9 hs9))
                have HX9 := Lib.hid (HX6b.out.pushWord HRW.out HNN6.out HB7.out HO7.out HG8.out HO8.out hg9 (by rw [List.length_map]; exact ho9) hs9)
                obtain ⟨a9, m9, c9, rfl, HA9⟩ := own_shape ho9
                have HFin : Hid (MMid w w9 w.heap.size (.slice a6 m6 c6) (.slice a9 m9 c9) (innerM xss k T (x + 1)).keys ((innerM xss k T (x + 1)).map Prod.snd)) := by
                  rw [HSTX.out]
                  unfold Hid
                  have ek : Mon.keys (U ++ [(y, zs ++ [(x : Int)])]) = U.keys ++ [y] := by simp [Mon.keys]
                  rw [ek, List.map_append]
                  exact HX9.out
                clear HX9 HX6b HX6 HO7 HG8 HOUT7 HOUT8 HB7 HO8 HRW HNN6 ho9 hg9 hs9
                go_wp2
                go_roundw
                case rel => exact ⟨x + 1, by omega, by go_num, HFin.out⟩
                case measure => simp [intOf]; omega
        · obtain rfl : x = xss.length := by omega
          have hr := HRD.out hlt
          rw [← HEND.out rfl] at hr
          have HR := Lib.hid hr
          clear hr hA hW hnn hap
          by_cases hbig : 400 < U.length
          · have hno := HMANY.out hlt h400 (by rw [HR.out]; exact hbig)
            have hdn : Hid (decide (M.length ≤ 400) = false) := decide_eq_false hno
            have HNO := Lib.hid hno
            clear hno
            go_wp2
            go_ret3
            exact ⟨_, _, (by first | (rw [hdn.out]; done) | (rw [hdn.out]; rfl)), fun h => absurd h HNO.out, hbw⟩
          · go_wp2
            go_roundw
            case rel => exact ⟨k + 1, by rw [HR.out]; omega, by rw [HR.out]; omega, by go_num, by rw [HR.out]; exact HX.out⟩
            case measure => simp [intOf]; omega
    · have hstop := HSTOP.out (by omega) (by omega)
      have hl : M.length ≤ 400 := by rw [← hstop]; exact h400
      have hdn : Hid (decide (M.length ≤ 400) = true) := decide_eq_true hl
      have HIF : Hid (MMid w wr w.heap.size (.slice (some ⟨ag, 0, none⟩) T.length ac) (.slice (some ⟨wg, 0, none⟩) T.length wc) M.keys ((outerM xss n k).map Prod.snd)) := by
        rw [← hstop, ← HT.out]
        exact HI.out
      clear hstop hl
      go_wp2
      go_ret3
      exact ⟨_, _, (by first | (rw [hdn.out]; done) | (rw [hdn.out]; rfl)), fun _ => HIF.out.acts, hbw⟩

set_option maxRecDepth 100000 in
set_option maxHeartbeats 4000000 in
theorem specMonoid_any (st : Int) (v : Value) (xss : List (List Int)) (w : World) (h1 : Rows2 w v xss) :
    Calls Try.prog 26 #[.agg #[.int .i64 st, v]] w (NewRows2 (moZs st xss) (moCd st xss) w) := by
  obtain ⟨ao, m, c, rfl, HM⟩ := h1.shape
  obtain ⟨W1, hW1⟩ : ∃ W1, W1 = w.alloc (.cells #[.int .i64 st, .slice ao m c] 44) := ⟨_, rfl⟩
  have bx : Below w.heap.size w W1 := by rw [hW1]; exact below_alloc (Below.refl _ _) _
  have p0 : W1.cell? ⟨w.heap.size, 0, none⟩ = some (.int .i64 st) := by rw [hW1]; go_simp
  have p1 : W1.cell? ⟨w.heap.size, 1, none⟩ = some (.slice ao m c) := by rw [hW1]; go_simp
  have HOK := Lib.hid (l01Ok_any w.heap.size 0 st _ xss W1 p0 p1 (h1.kept bx))
  cases hv : validB st xss
  · rw [show moZs st xss = [] by simp [moZs, hv], show moCd st xss = 1 by simp [moCd, hv]]
    rw [hv] at HOK
    subst hW1
    clear hv h1
    go_enter Try.func26, Try.ntmps26
    go_wp2_with fail
    refine HOK.out.mono ?_
    rintro e w2 ⟨rfl, hq⟩
    have hb := hq.below (w.alloc (.cells #[.int .i64 st, .slice ao m c] 44)).heap.size
    have HE := Lib.hid (ownRows_empty w2 w.heap.size (by have := hb.size; simp at this; omega))
    go_wp2
    go_ret2
    exact ⟨_, [], rfl, HE.out, below_trans bx (below_trans hb (below_alloc (Below.refl _ _) _))⟩
  · obtain ⟨n, hg⟩ := good_of hv
    have hz : moZs st xss = if (monT xss n).length ≤ 400 then (monT xss n).keys else [] := by unfold moZs; rw [if_pos hv, show st.toNat = n by have := hg.st; omega]
    have hc : moCd st xss = if (monT xss n).length ≤ 400 then 0 else 3 := by unfold moCd; rw [if_pos hv, show st.toNat = n by have := hg.st; omega]
    rw [hv] at HOK
    obtain rfl := hg.st
    have HSH := Lib.hid (fun W (hW : Below W1.heap.size W1 W) => l01Monoid_any w.heap.size _ xss n W (below_cell hW p0) (below_cell hW p1) ((h1.kept bx).kept hW) hg)
    have E1 : Hid (W1.heap.size = w.heap.size + 1) := by unfold Hid; rw [hW1]; simp
    by_cases hl : (monT xss n).length ≤ 400
    · rw [hz, hc, if_pos hl, if_pos hl]
      have HL := Lib.hid hl
      subst hW1
      clear hv h1 hg hl hz hc
      go_enter Try.func26, Try.ntmps26
      go_wp2_with fail
      refine HOK.out.mono ?_
      rintro e w2 ⟨rfl, hq⟩
      have hb := hq.below (w.alloc (.cells #[.int .i64 n, .slice ao m c] 44)).heap.size
      go_wp2_with fail
      refine (HSH.out _ hb).mono ?_
      rintro e w4 ⟨v4, v5, rfl, hok, hb4⟩
      obtain ⟨rs, ho⟩ := hok HL.out
      have hd : decide ((monT xss n).length ≤ 400) = true := decide_eq_true HL.out
      rw [hd]
      obtain ⟨a4, m4, c4, rfl, HM4⟩ := own_shape ho.outer
      have HO := Lib.hid ho
      have hsz := hb.size
      have hbb := below_trans bx (below_trans hb hb4)
      clear ho hok hd
      go_wp2
      go_ret2
      exact ⟨_, rs, rfl, HO.out.mono (by rw [E1.out] at hsz; omega), hbb⟩
    · rw [hz, hc, if_neg hl, if_neg hl]
      have HL := Lib.hid hl
      subst hW1
      clear hv h1 hg hl hz hc
      go_enter Try.func26, Try.ntmps26
      go_wp2_with fail
      refine HOK.out.mono ?_
      rintro e w2 ⟨rfl, hq⟩
      have hb := hq.below (w.alloc (.cells #[.int .i64 n, .slice ao m c] 44)).heap.size
      go_wp2_with fail
      refine (HSH.out _ hb).mono ?_
      rintro e w4 ⟨v4, v5, rfl, hok, hb4⟩
      have hd : decide ((monT xss n).length ≤ 400) = false := decide_eq_false HL.out
      rw [hd]
      have hbb := below_trans bx (below_trans hb hb4)
      have HE := Lib.hid (ownRows_empty w4 w.heap.size hbb.size)
      clear hok hd
      go_wp2
      go_ret2
      exact ⟨_, [], rfl, HE.out, below_alloc hbb _⟩

end Go.Proofs.Ytocdkeidjocmkaa
