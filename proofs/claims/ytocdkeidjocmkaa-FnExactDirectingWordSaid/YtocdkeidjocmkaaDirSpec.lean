/- DirectingWord of the reference. -/
import Derived.Test.YtocdkeidjocmkaaDirMid
import Derived.Test.YtocdkeidjocmkaaMonoidSpec
import Derived.Test.YtocdkeidjocmkaaSpecChoice
namespace Go.Proofs.Ytocdkeidjocmkaa
set_option linter.unusedVariables false
set_option linter.unusedSimpArgs false
open Go.ChangeShapes Go.WideShapes Go.ChangeAt Go.RowKit

theorem ints2_empty {w w2 : World} (cd : Int) (hb : Below w.heap.size w w2) : NewInts2 [] cd w (.returned (.tuple #[.slice (some ⟨w2.heap.size, 0, none⟩) 0 0, .int .i64 cd])) (w2.alloc (.cells #[] 2)) :=
  ⟨_, rfl, own_empty w2 w.heap.size hb.size 2, below_alloc hb _⟩
theorem directed_own {w : World} {lo g c n : Nat} {y : List Nat} (kind : Int) (h : w.ownsRow lo 2 1 (.slice (some ⟨g, 0, none⟩) n c) n ((castL y).map (Value.int .i64))) (hn : y.length = n) (h0 : 0 < n) (hl : n ≤ 10) (hlt : ∀ f ∈ y, f < 2 ^ n) (hk : inB kind 1 3 = true) :
    Calls Try.prog 69 #[.slice (some ⟨g, 0, none⟩) n c, .int .i64 kind] w (RetQ (.bool (dirB kind y)) w) := by
  subst hn
  refine l04Directed_any g 0 c y kind w h0 hl (fun k hk => ?_) (fun f hf => ?_) hk
  · rw [Nat.zero_add, ← castL_at hk]
    rw [← castL_len] at h hk
    exact own_int_at h hk
  · have := hlt f hf
    have := Nat.pow_le_pow_right (n := 2) (by decide) hl
    omega
theorem goA_lt {st : Int} {n : Nat} {rows : List (List (List Int))} (hr : GoodC st n rows) {x : Nat} (hx : x < rows.length) (a : List Nat) : ∀ f ∈ goA (rows.getD x []) n a, f < 2 ^ n := fun f hf => by
  obtain ⟨s, hs, rfl⟩ := List.mem_map.1 hf
  exact hr.go hx s (Nat.le_refl _)

set_option maxRecDepth 100000 in
set_option maxHeartbeats 8000000 in
theorem specDirect_any (st : Int) (v : Value) (xss : List (List (List Int))) (kind : Int) (w : World) (h1 : Rows3 w v xss) :
    Calls Try.prog 37 #[.agg #[.int .i64 st, v], .int .i64 kind] w (NewInts2 (dwZs st xss kind) (dwCd st xss kind) w) := by
  obtain ⟨ao, m, c, rfl, HM⟩ := h1.shape
  obtain ⟨W1, hW1⟩ : ∃ W1, W1 = w.alloc (.cells #[.int .i64 st, .slice ao m c] 28) := ⟨_, rfl⟩
  have bx : Below w.heap.size w W1 := by rw [hW1]; exact below_alloc (Below.refl _ _) _
  have p0 : W1.cell? ⟨w.heap.size, 0, none⟩ = some (.int .i64 st) := by rw [hW1]; go_simp
  have p1 : W1.cell? ⟨w.heap.size, 1, none⟩ = some (.slice ao m c) := by rw [hW1]; go_simp
  have HOK := Lib.hid (l04Choices_any w.heap.size 0 st _ xss W1 p0 p1 (h1.kept bx))
  have HKD := Lib.hid (fun W => l04Kind_any kind W)
  cases hv : validC st xss
  · rw [show dwZs st xss kind = [] by simp [dwZs, hv], show dwCd st xss kind = 1 by simp [dwCd, hv]]
    rw [hv] at HOK
    subst hW1
    clear hv h1
    go_enter Try.func37, Try.ntmps37
    go_wp2_with fail
    refine HOK.out.mono ?_
    rintro e w2 ⟨rfl, hq⟩
    have hb := below_trans bx (hq.below _)
    go_wp2
    go_ret2
    exact ints2_empty _ hb
  cases hk : inB kind 1 3
  · rw [show dwZs st xss kind = [] by simp [dwZs, hv, hk], show dwCd st xss kind = 2 by simp [dwCd, hv, hk]]
    rw [hv] at HOK
    rw [hk] at HKD
    subst hW1
    clear hv h1 hk
    go_enter Try.func37, Try.ntmps37
    go_wp2_with fail
    refine HOK.out.mono ?_
    rintro e w2 ⟨rfl, hq⟩
    have hb := below_trans bx (hq.below _)
    go_wp2_with fail
    refine (HKD.out _).mono ?_
    rintro e w3 ⟨rfl, rfl⟩
    go_wp2
    go_ret2
    exact ints2_empty _ hb
  obtain ⟨n, hg⟩ := goodC_of hv
  have hz : dwZs st xss kind = if dirB kind (firstD n) = true then [] else (endD xss n kind).word := by unfold dwZs; rw [if_pos hv, if_pos hk, show st.toNat = n by have := hg.st; omega]
  have hc : dwCd st xss kind = if dirB kind (firstD n) = true then 0 else (endD xss n kind).code := by unfold dwCd; rw [if_pos hv, if_pos hk, show st.toNat = n by have := hg.st; omega]
  generalize dwZs st xss kind = Z0 at hz ⊢
  generalize dwCd st xss kind = c0 at hc ⊢
  have HZ0 := Lib.hid hz
  have HC0 := Lib.hid hc
  rw [hv] at HOK
  rw [hk] at HKD
  have HK := Lib.hid hk
  obtain rfl := hg.st
  have hn1 := hg.lo
  have hn10 := hg.hi
  have hl1 := hg.len1
  have hl3 := hg.len3
  have HG := Lib.hid hg
  have H1 := Lib.hid (h1.kept bx)
  have E1 : Hid (W1.heap.size = w.heap.size + 1) := by unfold Hid; rw [hW1]; simp
  subst hW1
  clear hv h1 hg hz hc hk
  go_enter Try.func37, Try.ntmps37
  go_wp2_with fail
  refine HOK.out.mono ?_
  rintro e w2 ⟨rfl, hq⟩
  have hb := below_trans bx (hq.below _)
  replace p0 := hq.cell p0
  replace p1 := hq.cell p1
  have H2 := Lib.hid (hq.cube H1.out)
  have HB0 := Lib.hid hb
  clear H1 HOK bx hq
  go_wp2_with fail
  refine (HKD.out _).mono ?_
  rintro e w3 ⟨rfl, rfl⟩
  have lb0 := block_lt_of_cell p0
  have HE := Lib.hid (own_empty w2 w2.heap.size (Nat.le_refl _) 2)
  have hbe : Below w2.heap.size w2 (w2.alloc (.cells #[] 2)) := below_alloc (Below.refl _ _) _
  go_wp2
  go_loopw [6, 7] (fun u i wr => ∃ k : Nat, k ≤ n ∧ i = .int .i64 k ∧ Hid (wr.ownsRow w2.heap.size 2 1 u k ((castL (firstD k)).map (Value.int .i64))) ∧ Below w2.heap.size w2 wr) (fun _ i _ => n - (intOf i).toNat)
  case atStart => exact ⟨0, Nat.zero_le _, rfl, HE.out, hbe⟩
  case round =>
    obtain ⟨k, hk, rfl, HO, hb2⟩ := hrel
    have q0 := below_cell hb2 p0
    have q1 := below_cell hb2 p1
    by_cases hlt : k < n
    · have HP : Hid (wrap64 ((2 : Int) ^ k) = ((2 ^ k : Nat) : Int)) := by
        unfold Hid
        rw [wrap64_i64, wrap_pow_i64 (by omega)]
      go_wp2_with (at_builtin; refine wpList_push elem_int rfl (.tmp 29) (.tmp 33) rfl w2.heap.size rfl HO.out _ rfl rfl (by unfold maxLen; omega) (by omega) hb2.size ?_; intro v6 w6 ho6 hg6 hs6)
      rw [HP.out, firstD_snoc] at ho6
      have HO6 := Lib.hid ho6
      have hb6 : Below w2.heap.size w2 w6 := Below.grown hb2 hg6 hb2.size (fun g hg => (own_block HO.out hg).1)
      clear ho6 hg6 hs6
      go_wp2
      go_roundw
      case rel => exact ⟨k + 1, by omega, by go_num, HO6.out, hb6⟩
      case measure => simp [intOf]; omega
    · obtain rfl : k = n := by omega
      obtain ⟨yg, yc, rfl, _⟩ := own_some HO.out hn1
      have HD := Lib.hid (directed_own kind HO.out (firstD_len k) hn1 hn10 (fun f hf => (GoodD.start k).key _ (List.mem_singleton_self _) |>.2 f hf) HK.out)
      cases hdf : dirB kind (firstD k)
      · rw [hdf] at HD
        have hZ := HZ0.out
        have hC := HC0.out
        rw [if_neg (by rw [hdf]; decide)] at hZ hC
        replace HZ0 := Lib.hid hZ
        replace HC0 := Lib.hid hC
        clear hdf hZ hC
        go_wp2_with fail
        refine HD.out.mono ?_
        rintro e w5 ⟨rfl, hq5⟩
        have hb5 := hb2.trans (hq5.below _)
        have ho5 := own_below HO.out (hq5.below _)
        obtain ⟨W4, hW4⟩ : ∃ W4, W4 = ((w5.alloc (.cells #[.slice (some ⟨yg, 0, none⟩) k yc] 55)).alloc (.cells #[] 2)).alloc (.cells #[.slice (some ⟨w5.heap.size + 1, 0, none⟩) 0 0] 55) := ⟨_, rfl⟩
        have hb4 : Below w5.heap.size w5 W4 := by rw [hW4]; exact below_alloc (below_alloc (below_alloc (Below.refl _ _) _) _) _
        have hs5 := hb5.size
        have ws : W4.ownsRow w2.heap.size 55 1 (.slice (some ⟨w5.heap.size, 0, none⟩) 1 1) 1 [.slice (some ⟨yg, 0, none⟩) k yc] := by
          rw [hW4]
          exact ((World.ownsRow_lit (base := w2.heap.size) (size := 1) (e := 55) w5 #[.slice (some ⟨yg, 0, none⟩) k yc] 1 hs5 (by unfold maxLen; omega) (by simp)).alloc _).alloc _
        have wr0 : W4.ownsRow w2.heap.size 55 1 (.slice (some ⟨w5.heap.size + 1 + 1, 0, none⟩) 1 1) 1 [.slice (some ⟨w5.heap.size + 1, 0, none⟩) 0 0] := by
          rw [hW4]
          have := World.ownsRow_lit (base := w2.heap.size) (size := 1) (e := 55) ((w5.alloc (.cells #[.slice (some ⟨yg, 0, none⟩) k yc] 55)).alloc (.cells #[] 2)) #[.slice (some ⟨w5.heap.size + 1, 0, none⟩) 0 0] 1 (by simp; omega) (by unfold maxLen; omega) (by simp)
          simpa using this
        have we : W4.ownsRow w2.heap.size 2 1 (.slice (some ⟨w5.heap.size + 1, 0, none⟩) 0 0) 0 [] := by
          rw [hW4]
          have := (own_empty (w5.alloc (.cells #[.slice (some ⟨yg, 0, none⟩) k yc] 55)) w2.heap.size (by simp; omega) 2).alloc (.cells #[.slice (some ⟨w5.heap.size + 1, 0, none⟩) 0 0] 55)
          simpa using this
        have hA : OwnRows W4 w2.heap.size (.slice (some ⟨w5.heap.size, 0, none⟩) 1 1) [.slice (some ⟨yg, 0, none⟩) k yc] [castL (firstD k)] :=
          ⟨ws, fun j hj => by simp at hj; subst hj; simpa [castL_len, firstD_len] using own_below ho5 hb4, fun i j h1 h2 => by simp at h2; omega⟩
        have hO : OwnRows W4 w2.heap.size (.slice (some ⟨w5.heap.size + 1 + 1, 0, none⟩) 1 1) [.slice (some ⟨w5.heap.size + 1, 0, none⟩) 0 0] [[]] :=
          ⟨wr0, fun k hk => by simp at hk; subst hk; exact we, fun i j h1 h2 => by simp at h2; omega⟩
        have HMM : Hid (MMid w2 W4 w2.heap.size (.slice (some ⟨w5.heap.size, 0, none⟩) 1 1) (.slice (some ⟨w5.heap.size + 1 + 1, 0, none⟩) 1 1) [castL (firstD k)] [[]]) :=
          ⟨⟨_, hA⟩, ⟨_, hO, fun k hk => by simp at hk; subst hk; simp [Value.ownBlock]⟩, .inr (by simp [Value.ownBlock]; omega), hb5.trans (hb4.mono hs5), Nat.le_trans hs5 hb4.size⟩
        clear hO hA we wr0 ws hb4 ho5 hb5 hs5 q0 q1 hb2 HD HO HE hbe
        rw [hW4] at HMM
        clear hW4
        go_wp2
        go_loopw [8, 9, 10] (fun av wv i wr => ∃ (j : Nat) (T : Dir), j ≤ T.length ∧ i = .int .i64 j ∧ Hid (outerD xss k kind j = .run T) ∧ Hid (MMid w2 wr w2.heap.size av wv (castK T.keys) (T.map Prod.snd))) (fun _ _ i _ => 2001 - (intOf i).toNat)
        case atStart => exact ⟨0, _, Nat.zero_le _, rfl, rfl, HMM.out⟩
        case round =>
          obtain ⟨j, T, hj, rfl, HTO, HI⟩ := hrel
          have hgt := GoodD.outer HG.out j T HTO.out
          have hpos := hgt.pos
          have hmany := hgt.many
          have HGT := Lib.hid hgt
          obtain ⟨⟨rsA, hA⟩, ⟨rsW, hW, hnn⟩, hap, hbw, hlo⟩ := HI.out
          obtain ⟨ag, ac, rfl, _⟩ := own_some hA.outer (by rw [castK_len, Dir.keys_len]; exact hpos)
          obtain ⟨wg, wc, rfl, _⟩ := own_some hW.outer (by rw [List.length_map]; exact hpos)
          rw [castK_len, Dir.keys_len, List.length_map]
          rw [castK_len, Dir.keys_len, List.length_map] at HI
          clear hA hW hnn hap hgt
          by_cases hlt : j < T.length
          · go_wp2
            go_loopw [8, 9, 11] (fun av wv i wr => ∃ (x : Nat) (U : Dir), x ≤ xss.length ∧ i = .int .i64 x ∧ Hid (innerD xss k kind j T x = .run U) ∧ Hid (MMid w2 wr w2.heap.size av wv (castK U.keys) (U.map Prod.snd))) (fun _ _ i _ => xss.length - (intOf i).toNat)
            case atStart => exact ⟨0, T, Nat.zero_le _, rfl, rfl, HI.out⟩
            case round =>
              clear hbw hlo
              obtain ⟨x, U, hx, rfl, HUI, HX⟩ := hrel
              obtain ⟨hgx, V, hV⟩ := HGT.out.inner HG.out hlt x U hx HUI.out
              have hUk : j < U.length := by rw [hV, List.length_append]; omega
              have hUm := hgx.many
              have HTU : Hid (T.length ≤ U.length) := by unfold Hid; rw [hV, List.length_append]; omega
              clear hV
              obtain ⟨⟨rsA, hA⟩, ⟨rsW, hW, hnn⟩, hap, hbw, hlo⟩ := HX.out
              obtain ⟨ag2, ac2, rfl, _⟩ := own_some hA.outer (by rw [castK_len, Dir.keys_len]; omega)
              obtain ⟨wg2, wc2, rfl, _⟩ := own_some hW.outer (by rw [List.length_map]; omega)
              rw [castK_len, Dir.keys_len, List.length_map] at HX
              rw [castK_len, Dir.keys_len, List.length_map]
              have q0 := below_cell hbw p0
              have q1 := below_cell hbw p1
              by_cases hltx : x < xss.length
              · obtain ⟨wo, rfl⟩ : ∃ wo : World, wo = wr := ⟨_, rfl⟩
                have hxm : x < m := by have := HM.out; omega
                have hkey := hgx.key _ (Dir.at_mem hUk)
                have hwl := hgx.word _ (Dir.at_mem hUk)
                have hka : (castK U.keys).getD j [] = castL (U.at j).1 := by rw [castK_at (by rw [Dir.keys_len]; exact hUk), Dir.keys_at hUk]
                have hnA : (rsA.getD j undef).ownBlock ≠ none := by
                  have h := hA.row j (by rw [castK_len, Dir.keys_len]; exact hUk)
                  rw [hka, castL_len, hkey.1] at h
                  obtain ⟨g, cc, e, _⟩ := own_some h hn1
                  rw [e]; simp [Value.ownBlock]
                obtain ⟨rg, rc, e1, e2⟩ := own_row_at hA (by rw [castK_len, Dir.keys_len]; exact hUk) hnA
                rw [hka, castL_len, hkey.1] at e1 e2
                have i1 := idx_of Try.underlying22 size1_ints (ao := some ⟨ag2, 0, none⟩) (b := ag2) (o := 0) (n := U.length) (c := ac2) (fun _ => rfl) hUk .i64
                rw [Nat.zero_add] at i1
                have HSY := Lib.hid (fun h => stepD_yes (rows := xss) (n := k) (kind := kind) (i := j) (x := x) (T := U) h)
                have HSF := Lib.hid (fun h h2 => stepD_found (rows := xss) (n := k) (kind := kind) (i := j) (x := x) (T := U) h h2)
                have HSM := Lib.hid (fun h h2 h3 => stepD_many (rows := xss) (n := k) (kind := kind) (i := j) (x := x) (T := U) h h2 h3)
                have HSP := Lib.hid (fun h h2 h3 => stepD_push (rows := xss) (n := k) (kind := kind) (i := j) (x := x) (T := U) h h2 h3)
                have HSX := Lib.hid (innerD_succ HUI.out)
                have HEND := Lib.hid (fun w c h => endD_done (w := w) (c := c) HTO.out hlt hmany hltx HUI.out h)
                have hag := goA_good HG.out hltx hkey.1
                have HSN0 := Lib.hid (fun s h => goA_snoc (row := xss.getD x []) (n := k) (s := s) (a := (U.at j).1) h)
                have HZS : Hid ((U.at j).2 = (U.map Prod.snd).getD j []) := (Dir.words_at hUk).symm
                obtain ⟨ak, hak⟩ : ∃ ak, ak = (U.at j).1 := ⟨_, rfl⟩
                rw [← hak] at e2 hkey hag HSY HSF HSM HSP HSN0
                obtain ⟨zs, hzs⟩ : ∃ zs, zs = (U.at j).2 := ⟨_, rfl⟩
                rw [← hzs] at hwl HSF HSP HZS
                have HGN := Lib.hid (fun f (W : World) (hW : Below w2.heap.size w2 W) (hf : f < 2 ^ k) => l04Go_any w.heap.size k _ xss k f x W (below_cell hW p0) (below_cell hW p1) (H2.out.kept hW) HG.out hltx hf)
                obtain ⟨row, hrow⟩ : ∃ row, row = xss.getD x [] := ⟨_, rfl⟩
                rw [← hrow] at hag HSY HSF HSM HSP HSN0 HGN
                obtain ⟨y, hy⟩ : ∃ y, y = goA row k ak := ⟨_, rfl⟩
                rw [← hy] at hag HSY HSF HSM HSP HSN0
                have HE2 := Lib.hid (fun j (hj : j < k) => e2 j hj)
                have HKL : Hid (ak.length = k) := hkey.1
                have HKF : Hid (∀ f ∈ ak, f < 2 ^ k) := hkey.2
                have HYL : Hid (y.length = k) := hag.1
                have HYF : Hid (∀ f ∈ y, f < 2 ^ k) := hag.2
                have HEM := Lib.hid (own_empty wo wo.heap.size (Nat.le_refl _) 2)
                have hbe : Below wo.heap.size wo (wo.alloc (.cells #[] 2)) := below_alloc (Below.refl _ _) _
                have hA2 := hA
                rw [castK_len, Dir.keys_len] at hA2
                have HHA := Lib.hid hA2
                have HNN := Lib.hid hnn
                have HBW := Lib.hid hbw
                clear hA2 hA hW hnn hap hnA hka hgx e2 hkey hag hak hrow hzs hy
                have lb1 := block_lt_of_cell q1
                have le1 := block_lt_of_cell e1
                go_wp2
                go_loopw [12, 13] (fun u i wr => ∃ s : Nat, s ≤ k ∧ i = .int .i64 s ∧ Hid (wr.ownsRow wo.heap.size 2 1 u s (((castL y).take s).map (Value.int .i64))) ∧ Below wo.heap.size wo wr) (fun _ i _ => k - (intOf i).toNat)
                case atStart => exact ⟨0, Nat.zero_le _, rfl, HEM.out, hbe⟩
                case round =>
                  obtain ⟨s, hs, rfl, HO, hb⟩ := hrel
                  have r1 := below_cell hb e1
                  have hwos := hb.size
                  by_cases hlts : s < k
                  · have hf := HKF.out (ak.getD s 0) (by rw [List.getD_eq_getElem?_getD, List.getElem?_eq_getElem (by rw [HKL.out]; exact hlts)]; exact List.getElem_mem _)
                    have e3 := below_cell hb (HE2.out s hlts)
                    rw [castL_at (by rw [HKL.out]; exact hlts)] at e3
                    have HSN := Lib.hid (HSN0.out s (by rw [HKL.out]; exact hlts))
                    have HGO := Lib.hid (HGN.out (ak.getD s 0) wr (HBW.out.trans (hb.mono hlo)) hf)
                    obtain ⟨f, hfe⟩ : ∃ f, f = ak.getD s 0 := ⟨_, rfl⟩
                    rw [← hfe] at e3 HSN HGO
                    have j1 := idx_of Try.underlying55 size1_int (ao := some ⟨rg, 0, none⟩) (b := rg) (o := 0) (n := k) (c := rc) (fun _ => rfl) hlts .i64
                    rw [Nat.zero_add] at j1
                    have le3 := block_lt_of_cell e3
                    clear hfe hf
                    go_wp2_with fail
                    refine HGO.out.mono ?_
                    rintro e w5 ⟨rfl, hq5⟩
                    have hb5 := hb.trans ((hq5.below wr.heap.size).mono hwos)
                    have HO5 := Lib.hid (own_below HO.out (hq5.below _))
                    go_wp2_with (at_builtin; refine wpList_push elem_int rfl (.tmp 66) (.tmp 76) rfl wo.heap.size rfl HO5.out _ rfl rfl (by unfold maxLen; omega) (by omega) hb5.size ?_; intro v6 w6 ho6 hg6 hs6)
                    rw [HSN.out] at ho6
                    have HO6 := Lib.hid ho6
                    have hb6 : Below wo.heap.size wo w6 := Below.grown hb5 hg6 hb5.size (fun g hg => (own_block HO5.out hg).1)
                    clear ho6 hg6 hs6
                    go_wp2
                    go_roundw
                    case rel => exact ⟨s + 1, by omega, by go_num, HO6.out, hb6⟩
                    case measure => simp [intOf]; omega
                  · obtain rfl : s = k := by omega
                    have ho := HO.out
                    rw [List.take_of_length_le (by rw [castL_len, HYL.out]; exact Nat.le_refl _)] at ho
                    obtain ⟨ng, nc, rfl, _⟩ := own_some ho hn1
                    have HOY := Lib.hid ho
                    have HX3 := Lib.hid (HX.out.next hb)
                    have HHA3 := Lib.hid (HHA.out.below hb)
                    have HAPN : Hid (∀ i, i < (castK U.keys).length → (rsA.getD i undef).ownBlock = none ∨ (rsA.getD i undef).ownBlock ≠ Value.ownBlock (.slice (some ⟨ng, 0, none⟩) s nc)) := HHA.out.apart_new ho
                    have hra := HHA3.out.reads
                    have HFD := Lib.hid (l01Find_any (.slice (some ⟨ag2, 0, none⟩) U.length ac2) (.slice (some ⟨ng, 0, none⟩) s nc) (castK U.keys) (castL y) wr hra (ints_of_own ho))
                    clear ho hra
                    by_cases hin : y ∈ U.keys
                    · have hf := findRow_in (castK_mem.2 hin)
                      have HST : Hid (innerD xss s kind j T (x + 1) = .run U) := by unfold Hid; rw [HSX.out]; exact HSY.out hin
                      obtain ⟨fr, hfr⟩ : ∃ fr, fr = findRow (castK U.keys) (castL y) := ⟨_, rfl⟩
                      rw [← hfr] at HFD hf
                      have hdf : decide (0 ≤ fr) = true := decide_eq_true hf
                      clear hin hfr
                      go_wp2_with fail
                      refine HFD.out.mono ?_
                      rintro e w5 ⟨rfl, hq5⟩
                      have HX5 := Lib.hid (HX3.out.next (hq5.below _))
                      go_wp2
                      go_roundw
                      case rel => exact ⟨x + 1, U, by omega, by go_num, HST.out, HX5.out⟩
                      case measure => simp [intOf]; omega
                    · rw [findRow_out (fun h => hin (castK_mem.1 h))] at HFD
                      have HIN := Lib.hid hin
                      clear hin
                      go_wp2_with fail
                      refine HFD.out.mono ?_
                      rintro e w5 ⟨rfl, hq5⟩
                      have HX5 := Lib.hid (HX3.out.next (hq5.below _))
                      have HHA5 := Lib.hid (HHA3.out.below (hq5.below _))
                      have HOY5 := Lib.hid (own_below HOY.out (hq5.below _))
                      have hlow5 := HX5.out.low
                      have hs5 : wo.heap.size ≤ w5.heap.size := by have := (hq5.below 0).size; omega
                      have hX5 := HX5.out
                      have hwl2 : (U.map Prod.snd).length = U.length := by simp
                      rw [← hwl2] at hX5
                      obtain ⟨rw5, hw5, hnn5⟩ := hX5.words
                      have hkz : j < (U.map Prod.snd).length := by rw [List.length_map]; exact hUk
                      obtain ⟨kg, kc, e7, e8⟩ := own_row_at hw5 hkz (hnn5 j hkz)
                      rw [← HZS.out] at e7 e8
                      rw [hwl2] at hw5
                      have i7 := idx_of Try.underlying22 size1_ints (ao := some ⟨wg2, 0, none⟩) (b := wg2) (o := 0) (n := U.length) (c := wc2) (fun _ => rfl) hUk .i64
                      rw [Nat.zero_add] at i7
                      have HOWN := Lib.hid (l00OwnW_any kg 0 zs.length kc zs w5 rfl (fun i hi => by rw [Nat.zero_add]; exact e8 i hi) (by omega))
                      have HRW := Lib.hid hw5
                      have HNN5 := Lib.hid hnn5
                      clear hX5 hw5 hnn5 e8 hwl2 hq5
                      go_wp2_with fail
                      refine HOWN.out.mono ?_
                      rintro e w6 ⟨v6, rfl, ho6, hb6⟩
                      obtain ⟨a6, m6, c6, rfl, HA6⟩ := own_shape ho6
                      have hsz6 := hb6.size
                      have HB6 := Lib.hid hb6
                      have HO6 := Lib.hid ho6
                      clear e7 i7 hb6 ho6
                      go_wp2_with (at_builtin; refine wpList_push elem_int rfl (.tmp 86) (.tmp 88) rfl w5.heap.size rfl HO6.out _ rfl rfl (by unfold maxLen; omega) (by omega) hsz6 ?_; intro v7 w7 ho7 hg7 hs7; have HO7 := Lib.hid ho7; have HB7 : Hid (Below w5.heap.size w5 w7) := (Below.grown HB6.out hg7 hsz6 (fun g hg => (own_block HO6.out hg).1)); obtain ⟨g7, c7, rfl, _⟩ := own_some ho7 (by omega); clear ho7 hg7 hs7)
                      have HOY7 := own_below HOY5.out HB7.out
                      have HD7 := Lib.hid (directed_own kind HOY7 HYL.out hn1 hn10 HYF.out HK.out)
                      have hsz7 := HB7.out.size
                      clear HOY7
                      cases hdf : dirB kind y
                      · rw [hdf] at HD7
                        have HDF := Lib.hid hdf
                        clear hdf
                        refine HD7.out.mono ?_
                        rintro e w8 ⟨rfl, hq8⟩
                        have HB8 : Hid (Below w5.heap.size w5 w8) := HB7.out.trans ((hq8.below w7.heap.size).mono hsz7)
                        by_cases h20 : 2000 ≤ U.length
                        · have hend := HEND.out _ _ (HSM.out HIN.out HDF.out h20)
                          have hZ : Z0 = [] := by rw [HZ0.out, hend]; rfl
                          have hC : c0 = 3 := by rw [HC0.out, hend]; rfl
                          subst hZ hC
                          have hbb := below_trans HB0.out (HX5.out.next HB8.out).below
                          clear hend
                          go_wp2
                          go_ret2
                          exact ints2_empty _ hbb
                        · have HST : Hid (innerD xss s kind j T (x + 1) = .run (U ++ [(y, zs ++ [(x : Int)])])) := by unfold Hid; rw [HSX.out]; exact HSP.out HIN.out HDF.out (by omega)
                          have HX8 := Lib.hid (HX5.out.next HB8.out)
                          have HHA8 := Lib.hid (HHA5.out.below HB8.out)
                          have HOY8 := Lib.hid (own_below HOY5.out HB8.out)
                          have HO8 := Lib.hid (own_below HO7.out (hq8.below _))
                          have HW8 := Lib.hid (HRW.out.below HB8.out)
                          have HAPW := Lib.hid (HRW.out.apart_new HO7.out)
                          have hou := HHA8.out.outer
                          rw [castK_len, Dir.keys_len] at hou
                          have HOU := Lib.hid hou
                          have hlow8 := HX8.out.low
                          clear hou hq8
                          go_wp2_with (at_builtin; first | (refine wpList_push elem_ints rfl (.tmp 98) (.tmp 100) rfl w2.heap.size rfl HOU.out _ rfl rfl (by unfold maxLen; omega) (by omega) hlow8 ?_; intro v9 w9 ho9 hg9 hs9; have HX9 := Lib.hid (HX8.out.pushAct (ys := castL y) HHA8.out (by rw [castL_len, HYL.out]; exact HOY8.out) (by omega) HAPN.out hg9 (by rw [castK_len, Dir.keys_len]; exact ho9) hs9); have HW9 := Lib.hid (HW8.out.keepAll hg9 (apart_symm HX8.out.apart) (fun i hi => own_ne (HW8.out.row i hi) HHA8.out.outer (by decide))); have HR9 := Lib.hid (HO8.out.kept hg9 (own_ne HO8.out HHA8.out.outer (by decide))); have hwou := HW9.out.outer; rw [List.length_map] at hwou; have HWOU := Lib.hid hwou; have hlow9 := HX9.out.low; obtain ⟨a9, m9, c9, rfl, HA9⟩ := own_shape ho9; clear hwou ho9 hg9 hs9) | (refine wpList_push elem_ints rfl (.tmp 102) (.tmp 104) rfl w2.heap.size rfl HWOU.out _ rfl rfl (by unfold maxLen; omega) (by omega) hlow9 ?_; intro v10 w10 ho10 hg10 hs10))
                          have HX10 := Lib.hid (HX9.out.pushRow HW9.out HNN5.out (ys := zs ++ [(x : Int)]) (by simp) (by rw [List.map_append, List.length_append]; exact HR9.out) hlow5 HAPW.out hg10 (by rw [List.length_map]; exact ho10) hs10)
                          obtain ⟨a10, m10, c10, rfl, HA10⟩ := own_shape ho10
                          have HFin : Hid (MMid w2 w10 w2.heap.size (.slice a9 m9 c9) (.slice a10 m10 c10) (castK (Dir.keys (U ++ [(y, zs ++ [(x : Int)])]))) ((U ++ [(y, zs ++ [(x : Int)])]).map Prod.snd)) := by
                            unfold Hid
                            have ek : Dir.keys (U ++ [(y, zs ++ [(x : Int)])]) = U.keys ++ [y] := by simp [Dir.keys]
                            rw [ek, castK_snoc, List.map_append]
                            exact HX10.out
                          clear HX10 HX9 HW9 HR9 HWOU ho10 hg10 hs10
                          go_wp2
                          go_roundw
                          case rel => exact ⟨x + 1, _, by omega, by go_num, HST.out, HFin.out⟩
                          case measure => simp [intOf]; omega
                      · rw [hdf] at HD7
                        have hend := HEND.out _ _ (HSF.out HIN.out hdf)
                        have hZ : Z0 = zs ++ [(x : Int)] := by rw [HZ0.out, hend]; rfl
                        have hC : c0 = 0 := by rw [HC0.out, hend]; rfl
                        subst hZ hC
                        clear hdf hend
                        refine HD7.out.mono ?_
                        rintro e w8 ⟨rfl, hq8⟩
                        have HB8 : Hid (Below w5.heap.size w5 w8) := HB7.out.trans ((hq8.below w7.heap.size).mono hsz7)
                        have hbb := below_trans HB0.out (HX5.out.next HB8.out).below
                        have HO8 := Lib.hid (own_lo (own_below HO7.out (hq8.below _)) (show w.heap.size ≤ w5.heap.size by omega))
                        go_wp2
                        go_ret2
                        exact ⟨_, rfl, by simpa using HO8.out, hbb⟩
              · obtain rfl : x = xss.length := by omega
                have hxm : ¬ xss.length < m := by have := HM.out; omega
                have HN : Hid (outerD xss k kind (j + 1) = .run U) := by unfold Hid; rw [outerD_succ HTO.out hlt]; exact HUI.out
                clear hA hW hnn hap hgx
                go_wp2
                go_roundw
                case rel => exact ⟨j + 1, U, by omega, by go_num, HN.out, HX.out⟩
                case measure => simp [intOf]; omega
          · have hend := endD_run HTO.out (by omega) (by omega)
            have hZ : Z0 = [] := by rw [HZ0.out, hend]; rfl
            have hC : c0 = 6 := by rw [HC0.out, hend]; rfl
            subst hZ hC
            have hbb := below_trans hb hbw
            clear hend
            go_wp2
            go_ret2
            exact ints2_empty _ hbb
      · rw [hdf] at HD
        have hZ := HZ0.out
        have hC := HC0.out
        rw [if_pos hdf] at hZ hC
        subst hZ hC
        clear hdf
        go_wp2_with fail
        refine HD.out.mono ?_
        rintro e w5 ⟨rfl, hq5⟩
        have hb5 := below_trans hb (below_trans hb2 (hq5.below _))
        go_wp2
        go_ret2
        exact ints2_empty _ hb5

end Go.Proofs.Ytocdkeidjocmkaa
