/- l04Careful of the reference: the list of the sets, their words and what has been seen, in slots. -/
import Derived.Test.YtlgnbbfhejjodaaCarefulStep
import Derived.Test.YtlgnbbfhejjodaaTourG
import Derived.Deep.Cut
namespace Go.Proofs.Ytlgnbbfhejjodaa
set_option linter.unusedVariables false
set_option linter.unusedSimpArgs false
open Go.ChangeShapes Go.WideShapes Go.ChangeAt Go.RowKit

theorem l00Own_some (b o n c : Nat) (xs : List Int) (w : World) (hn : n = xs.length) (h1 : ∀ k, k < xs.length → w.cell? ⟨b, o + k, none⟩ = some (.int .i64 (xs.getD k 0))) (hl : xs.length ≤ 1048576) : Calls Try.prog 137 #[.slice (some ⟨b, o, none⟩) n c] w (NewInts xs w) := by
  subst hn
  have HE := Lib.hid (own_empty w w.heap.size (Nat.le_refl _) 2)
  have HC : Hid (∀ j u, (xs.map (Value.int .i64))[j]? = some u → w.cell? ((⟨b, o, none⟩ : Addr).add j) = some u) := by
    intro j u hj
    have hjl : j < xs.length := by have := (List.getElem?_eq_some_iff.1 hj).1; simpa using this
    rw [add_plain', h1 j hjl]
    simp [List.getD_eq_getElem?_getD, hjl] at hj ⊢
    exact hj
  clear h1
  go_enter Try.func137, Try.ntmps137
  go_wp2_with (at_builtin; refine wpList_appendE elem_int rfl (.tmp 3) (.tmp 4) rfl w.heap.size rfl HE.out ⟨b, o, none⟩ xs.length c (xs.map (Value.int .i64)) rfl (by simp) (fun j u hj => Lib.cell?_alloc_some _ (HC.out j u hj)) (fun u hu => by obtain ⟨x, _, rfl⟩ := List.mem_map.1 hu; rfl) (by unfold maxLen; omega) (by omega) (by simp) ?_; intro v' w1 hown hgr hs)
  go_wp2
  go_ret
  refine ⟨v', rfl, by simpa using hown, ?_⟩
  exact (below_alloc (Below.refl _ w) _).grown hgr (by simp) (fun g hg => (own_block HE.out hg).1)

/-- the list, the words and what has been seen -/
structure CMid (W w : World) (lo sb m : Nat) (lv wv : Value) (S N : List Nat) (zss : List (List Int)) : Prop where
  list : w.ownsRow lo 3 1 lv S.length (itVals S)
  rows : ∃ rs, OwnRows w lo wv rs zss ∧ ∀ k, k < zss.length → (rs.getD k undef).ownBlock ≠ none
  seen : w.ownsRow lo 4 1 (.slice (some ⟨sb, 0, none⟩) m m) m (seenVals m N)
  below : Below lo W w
  low : lo ≤ w.heap.size
theorem OwnRows.grownOther {w w' : World} {lo lo2 s2 n2 : Nat} {v v2 : Value} {rs : List Value} {zss : List (List Int)} {e2 : TypeId} {xs : List Value} {row : Option Nat} (h : OwnRows w lo v rs zss) (ho : w.ownsRow lo2 e2 s2 v2 n2 xs) (hg : w.grownBy w' row) (hr : row = v2.ownBlock) (h1 : 32 ≠ e2) (h2 : 2 ≠ e2) : OwnRows w' lo v rs zss :=
  ⟨h.outer.kept hg (by rw [hr]; exact own_ne h.outer ho h1), fun k hk => (h.row k hk).kept hg (by rw [hr]; exact own_ne (h.row k hk) ho h2), h.apart⟩
section
variable {W w w5 w6 w7 w8 : World} {lo sb m s : Nat} {lv wv v v6 v7 v8 : Value} {S N : List Nat} {zss : List (List Int)} {rs : List Value} {zs : List Int} {x : Int}
theorem CMid.next (h : CMid W w lo sb m lv wv S N zss) (hb : Below w.heap.size w w5) : CMid W w5 lo sb m lv wv S N zss :=
  ⟨own_below h.list hb, by obtain ⟨rs, h1, h2⟩ := h.rows; exact ⟨rs, h1.below hb, h2⟩, own_below h.seen hb, h.below.trans (hb.mono h.low), Nat.le_trans h.low hb.size⟩
theorem CMid.mark (h : CMid W w lo sb m lv wv S N zss) (hs : s < m) : CMid W (w.setCell ⟨sb, s, none⟩ (.bool true)) lo sb m lv wv S (N ++ [s]) zss := by
  obtain ⟨g1, g2⟩ := h.seen.stored s (.bool true)
  rw [seenVals_set _ hs] at g1
  refine ⟨own_grown h.list h.seen g2 rfl (by decide), ?_, g1, h.below.grown g2 h.low (fun g hg => by cases hg; exact (own_block h.seen rfl).1), Nat.le_trans h.low g2.size⟩
  obtain ⟨rs, h1, h2⟩ := h.rows
  exact ⟨rs, h1.grownOther h.seen g2 rfl (by decide) (by decide), h2⟩
theorem CMid.pushList (h : CMid W w lo sb m lv wv S N zss) (hg : w.grownBy w5 lv.ownBlock) (ho : w5.ownsRow lo 3 1 v (S.length + 1) (itVals S ++ [.int .i64 (s : Int)])) : CMid W w5 lo sb m v wv (S ++ [s]) N zss := by
  refine ⟨?_, ?_, own_grown h.seen h.list hg rfl (by decide), h.below.grown hg h.low (fun g hg => (own_block h.list hg).1), Nat.le_trans h.low hg.size⟩
  · rw [itVals_snoc] at ho
    rw [List.length_append, List.length_singleton]
    exact ho
  · obtain ⟨rs, h1, h2⟩ := h.rows
    exact ⟨rs, h1.grownOther h.list hg rfl (by decide) (by decide), h2⟩
theorem CMid.outer7 (hrs : OwnRows w lo wv rs zss) (hb6 : Below w.heap.size w w6) (ho6 : w6.ownsRow w.heap.size 2 1 v6 zs.length (zs.map (Value.int .i64))) (hg7 : w6.grownBy w7 v6.ownBlock) : w7.ownsRow lo 32 1 wv zss.length rs :=
  (hrs.below hb6).outer.kept hg7 (own_ne (hrs.below hb6).outer ho6 (by decide))
theorem CMid.pushRow (h : CMid W w lo sb m lv wv S N zss) (hrs : OwnRows w lo wv rs zss) (hnn : ∀ k, k < zss.length → (rs.getD k undef).ownBlock ≠ none) (hb6 : Below w.heap.size w w6) (ho6 : w6.ownsRow w.heap.size 2 1 v6 zs.length (zs.map (Value.int .i64)))
    (hg7 : w6.grownBy w7 v6.ownBlock) (ho7 : w7.ownsRow w.heap.size 2 1 v7 (zs.length + 1) (zs.map (Value.int .i64) ++ [.int .i64 x])) (hg8 : w7.grownBy w8 wv.ownBlock) (ho8 : w8.ownsRow lo 32 1 v8 (zss.length + 1) (rs ++ [v7])) : CMid W w8 lo sb m lv v8 S N (zss ++ [zs ++ [x]]) := by
  have hl := h.low
  have h6 := h.next hb6
  have o6 := hrs.below hb6
  have list7 := own_grown h6.list ho6 hg7 rfl (by decide)
  have seen7 := own_grown h6.seen ho6 hg7 rfl (by decide)
  have o7 : OwnRows w7 lo wv rs zss := ⟨CMid.outer7 hrs hb6 ho6 hg7, fun k hk => (o6.row k hk).kept hg7 (apart_of_new (hrs.row k hk) ho6), o6.apart⟩
  have b7 : Below lo W w7 := h6.below.grown hg7 h6.low (fun g hg => Nat.le_trans hl (own_block ho6 hg).1)
  have l7 : lo ≤ w7.heap.size := Nat.le_trans h6.low hg7.size
  have r7 : w7.ownsRow lo 2 1 v7 (zs ++ [x]).length ((zs ++ [x]).map (Value.int .i64)) := by
    rw [List.map_append, List.length_append]
    exact own_lo ho7 hl
  refine ⟨own_grown list7 o7.outer hg8 rfl (by decide), ⟨rs ++ [v7], o7.append hg8 ho8 r7 (fun k hk => apart_of_new (hrs.row k hk) ho7), fun k hk => ?_⟩, own_grown seen7 o7.outer hg8 rfl (by decide), b7.grown hg8 l7 (fun g hg => (own_block o7.outer hg).1), Nat.le_trans l7 hg8.size⟩
  rw [List.length_append, List.length_singleton] at hk
  have hlen := hrs.len
  by_cases hin : k < zss.length
  · rw [show (rs ++ [v7]).getD k undef = rs.getD k undef by simp [List.getD_eq_getElem?_getD, List.getElem?_append, hlen, hin]]
    exact hnn k hin
  · obtain rfl : k = zss.length := by omega
    rw [show (rs ++ [v7]).getD zss.length undef = v7 by simp [List.getD_eq_getElem?_getD, hlen]]
    obtain ⟨g, cap, e, _⟩ := own_some ho7 (by omega)
    rw [e]
    simp [Value.ownBlock]
/-- word k, at its cells -/
theorem CMid.row_at (hrs : OwnRows w lo wv rs zss) (hnn : ∀ k, k < zss.length → (rs.getD k undef).ownBlock ≠ none) {k : Nat} (hk : k < zss.length) : ∃ g cap, rs.getD k undef = .slice (some ⟨g, 0, none⟩) (zss.getD k []).length cap ∧ ∀ j, j < (zss.getD k []).length → w.cell? ⟨g, 0 + j, none⟩ = some (.int .i64 ((zss.getD k []).getD j 0)) := by
  have h := hrs.row k hk
  rcases h.2 with ⟨e, _⟩ | ⟨g, cap, cur, e, _⟩
  · exact absurd (by rw [e]; rfl) (hnn k hk)
  · refine ⟨g, cap, e, fun j hj => ?_⟩
    rw [e] at h
    rw [Nat.zero_add, h.cellAt j (by omega)]
    generalize zss.getD k [] = l at hj
    simp [List.getD_eq_getElem?_getD, hj]
end
theorem snd_at {T : Tour} {k : Nat} (h : k < T.length) : (T.map Prod.snd).getD k [] = (T.at k).2 := by simp [Tour.at, List.getD_eq_getElem?_getD, h]

set_option maxRecDepth 100000 in
set_option maxHeartbeats 4000000 in
theorem l04Careful_any (b : Nat) (st : Int) (v : Value) (xss : List (List Int)) (n : Nat) (w : World) (d0 : w.cell? ⟨b, 0, none⟩ = some (.int .i64 st)) (d1 : w.cell? ⟨b, 1, none⟩ = some v) (h1 : Rows2 w v xss) (hg : GoodQ st n xss) :
    Calls Try.prog 96 #[.pointer (some ⟨b, 0, none⟩)] w (ShrinkPost (wordP smallB (tourP xss (2 ^ n - 1))) (firstT smallB (tourP xss (2 ^ n - 1))).isSome w) := by
  obtain ⟨ao, ab, o, c, H⟩ := h1.open
  have hv := H.val
  subst hv
  obtain rfl := hg.st
  have hm := H.len
  have hn10 := hg.hi
  have hl1 := hg.len1
  have hl3 := hg.len3
  have hp := Nat.two_pow_pos n
  have hp2 : 2 ^ n ≤ 1024 := Nat.pow_le_pow_right (by decide) hn10
  obtain ⟨f, hf⟩ : ∃ f, f = 2 ^ n - 1 := ⟨_, rfl⟩
  have hfl : f < 2 ^ n := by omega
  obtain ⟨m, hm2⟩ : ∃ m, m = f + 1 := ⟨_, rfl⟩
  have hmn : m = 2 ^ n := by omega
  have hfm : f < m := by omega
  have HALL : Hid (∀ W, Calls Try.prog 135 #[.int .i64 n] W fun e w' => e = .returned (.int .i64 (f : Int)) ∧ W = w') := fun W => by rw [hf]; exact l04All_any n W hn10
  rw [← hf]
  have HG := Lib.hid hg
  have HGT := Lib.hid (fun i => GoodT.outerP hg hfl i)
  have HMN := Lib.hid hmn
  have H1 := Lib.hid h1
  have hm1 : m ≤ 1024 := by omega
  have hw2 : wrap64 ((f : Int) + 1) = (m : Int) := by rw [wrap64_i64, wrap_i64_in _ (by omega) (by omega)]; omega
  have hw3 : (f : Int) + 1 = (m : Int) := by omega
  have HW2 := Lib.hid hw2
  have HW3 := Lib.hid hw3
  obtain ⟨i0, hi, hz0, hz1, hz2⟩ := info_parts info_b
  have i1 := idx_of Try.underlying120 size1_b (ao := some ⟨w.heap.size + 1 + 1 + 1, 0, none⟩) (b := w.heap.size + 1 + 1 + 1) (o := 0) (n := m) (c := m) (fun _ => rfl) hfm .i64
  rw [Nat.zero_add] at i1
  clear hf hfl hg hmn hw2 hw3 h1 H hp hp2 hm2
  go_enter Try.func96, Try.ntmps96
  go_wp2_with fail
  refine (HALL.out _).mono ?_
  rintro e w2 ⟨rfl, rfl⟩
  obtain ⟨W3, hW3⟩ : ∃ W3, W3 = ((w.alloc (.cells #[.int .i64 (f : Int)] 3)).alloc (.cells #[] 2)).alloc (.cells #[.slice (some ⟨w.heap.size + 1, 0, none⟩) 0 0] 32) := ⟨_, rfl⟩
  have c3 : W3.cell? ⟨w.heap.size, 0, none⟩ = some (.int .i64 (f : Int)) := by rw [hW3]; go_simp
  have hb3 : Below w.heap.size w W3 := by rw [hW3]; exact below_alloc (below_alloc (below_alloc (Below.refl _ _) _) _) _
  have e3 : W3.heap.size = w.heap.size + 1 + 1 + 1 := by rw [hW3]; simp
  go_wp2_with (at_make; refine wpList_make_full _ rfl _ _ 120 rfl w.heap.size 4 i0 (.bool false) 1 Try.underlying120 hi hz0 hz1 .i64 .i64 _ _ m rfl rfl (by first | exact HW2.out | exact HW3.out) (by first | exact HW2.out | exact HW3.out) (by rw [hz2]; omega) (by unfold maxLen; omega) (by simp; omega) ?_; intro w1 hown hgr; have hfc : w1.cell? ⟨w.heap.size + 1 + 1 + 1, f, none⟩ = some (.bool false) := (by simpa using seen_false hown hfm); have hff : w1.frozen? ⟨w.heap.size + 1 + 1 + 1, f, none⟩ = false := (by simpa using hown.frozenAt f); have hlc : w1.cell? ⟨w.heap.size, 0, none⟩ = some (.int .i64 (f : Int)) := (by rw [← hW3] at hgr; exact below_cell (Below.of_grown_none hgr) c3))
  rw [← hW3] at hown hgr
  rw [e3] at hown
  rw [made_false] at hown
  have hb1 := Below.of_grown_none hgr
  have ws : W3.ownsRow w.heap.size 3 1 (.slice (some ⟨w.heap.size, 0, none⟩) 1 1) 1 [.int .i64 (f : Int)] := by
    rw [hW3]
    exact ((World.ownsRow_lit (base := w.heap.size) (size := 1) (e := 3) w #[.int .i64 (f : Int)] 1 (Nat.le_refl _) (by unfold maxLen; omega) (by simp)).alloc _).alloc _
  have wr0 : W3.ownsRow w.heap.size 32 1 (.slice (some ⟨w.heap.size + 1 + 1, 0, none⟩) 1 1) 1 [.slice (some ⟨w.heap.size + 1, 0, none⟩) 0 0] := by
    rw [hW3]
    have := World.ownsRow_lit (base := w.heap.size) (size := 1) (e := 32) ((w.alloc (.cells #[.int .i64 (f : Int)] 3)).alloc (.cells #[] 2)) #[.slice (some ⟨w.heap.size + 1, 0, none⟩) 0 0] 1 (by simp; try omega) (by unfold maxLen; omega) (by simp)
    simpa using this
  have we : W3.ownsRow w.heap.size 2 1 (.slice (some ⟨w.heap.size + 1, 0, none⟩) 0 0) 0 [] := by
    rw [hW3]
    have := (own_empty (w.alloc (.cells #[.int .i64 (f : Int)] 3)) w.heap.size (by simp) 2).alloc (.cells #[.slice (some ⟨w.heap.size + 1, 0, none⟩) 0 0] 32)
    simpa using this
  have hO : OwnRows W3 w.heap.size (.slice (some ⟨w.heap.size + 1 + 1, 0, none⟩) 1 1) [.slice (some ⟨w.heap.size + 1, 0, none⟩) 0 0] [[]] :=
    ⟨wr0, fun k hk => by simp at hk; subst hk; exact we, fun i j h1 h2 => by simp at h2; omega⟩
  have hM : CMid w w1 w.heap.size (w.heap.size + 1 + 1 + 1) m (.slice (some ⟨w.heap.size, 0, none⟩) 1 1) (.slice (some ⟨w.heap.size + 1 + 1, 0, none⟩) 1 1) [f] [] [[]] :=
    ⟨own_below ws hb1, ⟨_, hO.below hb1, fun k hk => by simp at hk; subst hk; simp [Value.ownBlock]⟩, hown, hb3.trans (hb1.mono hb3.size), Nat.le_trans hb3.size hb1.size⟩
  have hM2 := hM.mark hfm
  have HM := Lib.hid hM2
  clear hM hM2 hO we wr0 ws hb1 hown hgr c3 hb3 e3 hfc hff hlc i1 hz0 hz1 hz2 hi
  clear hW3
  obtain ⟨sb, hsb⟩ : ∃ sb, sb = w.heap.size + 1 + 1 + 1 := ⟨_, rfl⟩
  rw [← hsb] at HM
  rw [← hsb]
  clear hsb
  go_loopw [4, 5, 7] (fun lv wv i wr => ∃ k : Nat, k ≤ (outerP xss f k).length ∧ i = .int .i64 k ∧ Hid (CMid w wr w.heap.size sb m lv wv (outerP xss f k).sets (outerP xss f k).sets ((outerP xss f k).map Prod.snd)) ∧ Hid (∀ j, j < k → smallB ((outerP xss f k).at j).1 = false)) (fun _ _ i _ => 1024 - (intOf i).toNat)
  case atStart => exact ⟨0, Nat.zero_le _, rfl, HM.out, fun j hj => absurd hj (by omega)⟩
  case round =>
    obtain ⟨k, hk, rfl, HI, HNO⟩ := hrel
    have hgt := HGT.out k
    have hlen := hgt.len10 hn10
    have HST := Lib.hid (fun (hlt : k < (outerP xss f k).length) => outerP_round hlt)
    have HSTOP := Lib.hid (fun (h : (outerP xss f k).length ≤ k) (h2 : k ≤ 1024) => tourP_stop h h2)
    have HYES := Lib.hid (fun (h : k ≤ 1024) (hlt : k < (outerP xss f k).length) hp => firstP_yes (p := smallB) h hlt hp HNO.out)
    have HNEXT := Lib.hid (fun (hlt : k < (outerP xss f k).length) hp => firstP_next (p := smallB) hlt hp HNO.out)
    have HNO2 : Hid (∀ j, j < k → smallB ((outerP xss f k).at j).1 = false) := HNO
    obtain ⟨T, hT⟩ : ∃ T, T = outerP xss f k := ⟨_, rfl⟩
    rw [← hT] at hk HI hgt hlen HST HYES HNEXT HSTOP HNO2
    clear HNO
    obtain ⟨hl, ⟨rs, hrs, hnn⟩, hsn, hbw, hlo⟩ := HI.out
    have hlen2 : (T.map Prod.snd).length = T.length := by simp
    have hpos : 0 < T.length := by rw [hT]; have := outerP_pre xss f 0 k; rw [Nat.zero_add] at this; have h := this.1; simp [outerP_zero] at h; omega
    obtain ⟨lg, lc, rfl, hlc⟩ := own_some hl (by rw [Tour.sets_len']; exact hpos)
    obtain ⟨wg, wc, rfl, hwc⟩ := own_some hrs.outer (by rw [hlen2]; exact hpos)
    rw [Tour.sets_len'] at hl HI
    rw [hlen2] at HI
    by_cases hlt : k < T.length
    · have i1 := idx_of Try.underlying117 size1_i (ao := some ⟨lg, 0, none⟩) (b := lg) (o := 0) (n := T.length) (c := lc) (fun _ => rfl) hlt .i64
      rw [Nat.zero_add] at i1
      have t2 : wr.cell? ⟨lg, k, none⟩ = some (.int .i64 ((T.at k).1 : Int)) := by
        rw [hl.cellAt k (by omega), itVals_get (by rw [Tour.sets_len']; exact hlt), Tour.sets_at' hlt]
      have hfl := hgt.lt _ (Tour.at_mem hlt)
      have hr := hrs.row k (by rw [hlen2]; exact hlt)
      have hrc : wr.cell? ⟨wg, k, none⟩ = some (rs.getD k undef) := by
        rw [hrs.outer.cellAt k (by rw [hlen2]; omega)]
        rw [List.getD_eq_getElem?_getD, List.getElem?_eq_getElem (by rw [hrs.len, hlen2]; exact hlt)]
        rfl
      rw [snd_at hlt] at hr
      have hyes := HYES.out (by omega) hlt
      have hnext := HNEXT.out hlt
      obtain ⟨fk, hfk⟩ : ∃ fk, fk = (T.at k).1 := ⟨_, rfl⟩
      rw [← hfk] at t2 hfl hyes hnext
      have hfk2 : fk < 1024 := Nat.lt_of_lt_of_le hfl (Nat.pow_le_pow_right (by decide) hn10)
      have HSG := Lib.hid (fun W => l02Single_any fk W hfk2)
      have HFK := Lib.hid hfk
      have HT := Lib.hid hT
      have HGTT := Lib.hid hgt
      have HFL := Lib.hid hfl
      have HNX := Lib.hid hnext
      have HY := Lib.hid hyes
      clear hfk hT hgt hfl hnext hyes HYES HNEXT
      cases hsm : smallB fk
      · rw [hsm] at HSG
        have HSM := Lib.hid hsm
        clear hsm hr hrc
        have HI2 : Hid (CMid w wr w.heap.size sb m (.slice (some ⟨lg, 0, none⟩) T.length lc) (.slice (some ⟨wg, 0, none⟩) T.length wc) T.sets T.sets (T.map Prod.snd)) := HI.out
        rw [Tour.sets_len', hlen2]
        clear hl hrs hnn hsn hbw hlo
        go_wp2_with fail
        refine (HSG.out _).mono ?_
        rintro e w3 ⟨rfl, rfl⟩
        clear t2 i1
        go_wp2
        go_loopw [4, 5, 8] (fun lv wv i wr => ∃ x : Nat, x ≤ xss.length ∧ i = .int .i64 x ∧ Hid (CMid w wr w.heap.size sb m lv wv (innerP xss k T x).sets (innerP xss k T x).sets ((innerP xss k T x).map Prod.snd))) (fun _ _ i _ => xss.length - (intOf i).toNat)
        case atStart => exact ⟨0, Nat.zero_le _, rfl, HI2.out⟩
        case round =>
          obtain ⟨x, hx, rfl, HX⟩ := hrel
          have hgx := GoodT.innerP HG.out HGTT.out hlt x hx
          have hlx := hgx.len10 hn10
          have hTx := innerP_len xss k T x
          have hatx := innerP_at xss k T x hlt
          have HSTX := Lib.hid (innerP_succ xss k T x)
          have HEND := Lib.hid (fun (h : x = xss.length) => (show innerP xss k T x = innerP xss k T xss.length by rw [h]))
          obtain ⟨U, hU⟩ : ∃ U, U = innerP xss k T x := ⟨_, rfl⟩
          rw [← hU] at HX hgx hlx hTx hatx HSTX HEND
          have hUk : k < U.length := by omega
          clear hU
          obtain ⟨hl, ⟨rs, hrs, hnn⟩, hsn, hbw, hlo⟩ := HX.out
          have hlen3 : (U.map Prod.snd).length = U.length := by simp
          obtain ⟨lg2, lc2, rfl, hlc2⟩ := own_some hl (by rw [Tour.sets_len']; omega)
          obtain ⟨wg2, wc2, rfl, hwc2⟩ := own_some hrs.outer (by rw [hlen3]; omega)
          rw [Tour.sets_len'] at hl HX
          rw [hlen3] at HX hrs
          rw [Tour.sets_len', hlen3]
          have q0 := below_cell hbw d0
          have q1 := below_cell hbw d1
          by_cases hltx : x < xss.length
          · have i2 := idx_of Try.underlying117 size1_i (ao := some ⟨lg2, 0, none⟩) (b := lg2) (o := 0) (n := U.length) (c := lc2) (fun _ => rfl) hUk .i64
            rw [Nat.zero_add] at i2
            have hatk := Tour.sets_at' hUk
            rw [hatx, ← HFK.out] at hatk
            have t2 : wr.cell? ⟨lg2, k, none⟩ = some (.int .i64 (fk : Int)) := by
              rw [hl.cellAt k (by omega), itVals_get (by rw [Tour.sets_len']; exact hUk), hatk]
            have hstep : stepP xss k U x = if badR xss x fk = true then U else stepT xss k U x := by unfold stepP; rw [hatx, ← HFK.out]
            have hrow := HG.out.row hltx
            have HL4 := Lib.hid (fun cd ok hy hno => l04Step_any b n _ xss n fk x wr q0 q1 (H1.out.kept hbw) HG.out hltx HFL.out cd ok hy hno)
            cases hbad : badR xss x fk
            · rw [hbad] at hstep
              have hmt : moved (xss.getD x []) fk < 2 ^ n := movedTo_ltP hrow.2 (Nat.le_refl _) (by simpa [badR] using hbad)
              have hstep2 : stepT xss k U x = if moved (xss.getD x []) fk ∈ U.sets then U else U ++ [(moved (xss.getD x []) fk, (T.at k).2 ++ [(x : Int)])] := by unfold stepT; rw [hatx, ← HFK.out]
              have HCL := Lib.hid (HL4.out (moved (xss.getD x []) fk : Int) true (fun h => by rw [hbad] at h; cases h) (fun _ => ⟨rfl, rfl⟩))
              rw [if_neg (by simp)] at hstep
              rw [hstep2] at hstep
              obtain ⟨to, hto⟩ : ∃ to, to = moved (xss.getD x []) fk := ⟨_, rfl⟩
              rw [← hto] at HCL hmt hstep
              rw [← HMN.out] at hmt
              have HSTP := Lib.hid hstep
              have HATX := Lib.hid hatx
              clear hto hstep hstep2 hbad hrow hatk HL4 hatx hrs hnn hsn hl
              go_wp2_with fail
              refine HCL.out.mono ?_
              rintro e w3 ⟨rfl, hq⟩
              have hX3 := HX.out.next (hq.below _)
              have i4 := idx_of Try.underlying120 size1_b (ao := some ⟨sb, 0, none⟩) (b := sb) (o := 0) (n := m) (c := m) (fun _ => rfl) hmt .i64
              rw [Nat.zero_add] at i4
              have d5 : w3.cell? ⟨sb, to, none⟩ = some (.bool (decide (to ∈ U.sets))) := by rw [hX3.seen.cellAt to (by omega), seenVals_get _ hmt]
              have f5 := hX3.seen.frozenAt to
              have HX3 := Lib.hid hX3
              clear hX3 q0 q1 t2 i2 hq hbw hlo
              by_cases hin : to ∈ U.sets
              · rw [decide_eq_true hin] at d5
                have hst2 := HSTP.out
                rw [if_pos hin] at hst2
                rw [hst2] at HSTX
                clear hin hst2
                go_wp2
                go_roundw
                case rel => exact ⟨x + 1, by omega, by go_num, by rw [HSTX.out]; exact HX3.out⟩
                case measure => simp [intOf]; omega
              · rw [decide_eq_false hin] at d5
                have hst2 := HSTP.out
                rw [if_neg hin] at hst2
                rw [hst2] at HSTX
                clear hin hst2
                have hM4 := HX3.out.mark hmt
                obtain ⟨w4, hw4⟩ : ∃ w4, w4 = w3.setCell ⟨sb, to, none⟩ (.bool true) := ⟨_, rfl⟩
                rw [← hw4] at hM4
                have HM4 := Lib.hid hM4
                go_upto_region 16 with fail
                rw [← hw4]
                clear hw4 d5 f5 hM4
                go_upto_region 17 with (at_builtin; refine wpList_push elem_i rfl (.tmp 74) (.tmp 76) rfl w.heap.size rfl HM4.out.list _ rfl rfl (by rw [Tour.sets_len']; unfold maxLen; omega) (by rw [Tour.sets_len']; omega) HM4.out.low ?_; intro v5 w5 ho5 hg5 hs5; have HM5 := Lib.hid (HM4.out.pushList hg5 ho5); obtain ⟨a5, m5, c5, rfl, HA5⟩ := own_shape ho5; clear ho5 hg5 hs5)
                obtain ⟨rs, hrs, hnn⟩ := HM5.out.rows
                have hrs2 := hrs
                have hwl := hgx.word _ (Tour.at_mem hUk)
                rw [HATX.out] at hwl
                obtain ⟨rg, rc, hre, hrcell⟩ := CMid.row_at hrs hnn (k := k) (by rw [hlen3]; exact hUk)
                rw [snd_at hUk, HATX.out] at hre hrcell
                have hrk : w5.cell? ⟨wg2, k, none⟩ = some (.slice (some ⟨rg, 0, none⟩) (T.at k).2.length rc) := by
                  have hou := hrs.outer
                  rw [hlen3] at hou
                  rw [hou.cellAt k (by omega), ← hre]
                  rw [List.getD_eq_getElem?_getD, List.getElem?_eq_getElem (by rw [hrs.len, hlen3]; exact hUk)]
                  rfl
                have i7 := idx_of Try.underlying22 size1_ints (ao := some ⟨wg2, 0, none⟩) (b := wg2) (o := 0) (n := U.length) (c := wc2) (fun _ => rfl) hUk .i64
                rw [Nat.zero_add] at i7
                obtain ⟨zs, hzs⟩ : ∃ zs, zs = (T.at k).2 := ⟨_, rfl⟩
                rw [← hzs] at hrk hwl hrcell HSTX
                have HOWN := Lib.hid (l00Own_some rg 0 zs.length rc zs w5 rfl hrcell (by omega))
                have HRS := Lib.hid hrs
                have HNN := Lib.hid hnn
                clear hrs hrs2 hnn hre hrcell hzs
                go_wp2_with fail
                refine HOWN.out.mono ?_
                rintro e w6 ⟨v6, rfl, ho6, hb6⟩
                obtain ⟨a6, m6, c6, rfl, HA6⟩ := own_shape ho6
                have hsz6 := hb6.size
                have hlow5 := HM5.out.low
                have HB6 := Lib.hid hb6
                have HO6 := Lib.hid ho6
                clear hrk i7 hb6 ho6
                go_wp2_with (at_builtin; first | (refine wpList_push elem_int rfl (.tmp 83) (.tmp 85) rfl w5.heap.size rfl HO6.out _ rfl rfl (by unfold maxLen; omega) (by omega) hsz6 ?_; intro v7 w7 ho7 hg7 hs7; have HOUT := Lib.hid (CMid.outer7 HRS.out HB6.out HO6.out hg7); have HO7 := Lib.hid ho7; have HG7 := Lib.hid hg7; have hsz7 : w.heap.size ≤ w7.heap.size := (by have := hg7.size; omega); obtain ⟨a7, m7, c7, rfl, HA7⟩ := own_shape ho7; clear ho7 hg7 hs7) | (refine wpList_push elem_ints rfl (.tmp 78) (.tmp 87) rfl w.heap.size rfl HOUT.out _ rfl rfl (by rw [hlen3]; unfold maxLen; omega) (by rw [hlen3]; omega) hsz7 ?_; intro v8 w8 ho8 hg8 hs8; have HM8 := Lib.hid (HM5.out.pushRow HRS.out HNN.out HB6.out HO6.out HG7.out HO7.out hg8 ho8); obtain ⟨a8, m8, c8, rfl, HA8⟩ := own_shape ho8; clear ho8 hg8 hs8))
                have HFin : Hid (CMid w w8 w.heap.size sb m (.slice a5 m5 c5) (.slice a8 m8 c8) (innerP xss k T (x + 1)).sets (innerP xss k T (x + 1)).sets ((innerP xss k T (x + 1)).map Prod.snd)) := by
                  rw [HSTX.out]
                  have es : Tour.sets (U ++ [(to, zs ++ [(x : Int)])]) = U.sets ++ [to] := by simp [Tour.sets]
                  unfold Hid
                  rw [es, List.map_append]
                  exact HM8.out
                clear HM8 HM5 HM4 HO7 HG7 HOUT HB6 HO6 HRS HNN
                go_wp2
                go_roundw
                case rel => exact ⟨x + 1, by omega, by go_num, HFin.out⟩
                case measure => simp [intOf]; omega
            · rw [hbad] at hstep
              rw [if_pos rfl] at hstep
              have HCL := Lib.hid (HL4.out 0 false (fun _ => ⟨rfl, rfl⟩) (fun h => by rw [hbad] at h; cases h))
              rw [hstep] at HSTX
              clear hstep hbad hrow hatk HL4 hrs hnn hsn hl
              go_wp2_with fail
              refine HCL.out.mono ?_
              rintro e w3 ⟨rfl, hq⟩
              have HX3 := Lib.hid (HX.out.next (hq.below _))
              clear q0 q1 t2 i2 hq hbw hlo
              go_wp2
              go_roundw
              case rel => exact ⟨x + 1, by omega, by go_num, by rw [HSTX.out]; exact HX3.out⟩
              case measure => simp [intOf]; omega
          · obtain rfl : x = xss.length := by omega
            have hr := HST.out hlt
            rw [← HEND.out rfl] at hr
            have hs := HNX.out HSM.out
            rw [hr] at hs
            have HS := Lib.hid hs
            have HR := Lib.hid hr
            clear hr hs hrs hnn hsn hl
            go_wp2
            go_roundw
            case rel => exact ⟨k + 1, by rw [HR.out]; omega, by go_num, by rw [HR.out]; exact HX.out, by rw [HR.out]; exact HS.out⟩
            case measure => simp [intOf]; omega
      · rw [hsm] at HSG
        have hft := HY.out hsm
        have HWP : Hid (wordP smallB (tourP xss f) = (T.at k).2 ∧ (firstT smallB (tourP xss f)).isSome = true) := ⟨by unfold wordP; rw [hft]; rfl, by rw [hft]; rfl⟩
        have i7 := idx_of Try.underlying22 size1_ints (ao := some ⟨wg, 0, none⟩) (b := wg) (o := 0) (n := T.length) (c := wc) (fun _ => rfl) hlt .i64
        rw [Nat.zero_add] at i7
        rw [Tour.sets_len', hlen2]
        obtain ⟨r, hrr⟩ : ∃ r, r = rs.getD k undef := ⟨_, rfl⟩
        rw [← hrr] at hr hrc
        obtain ⟨ra, rm, rc, rfl, HA⟩ := own_shape hr
        have HR := Lib.hid hr
        clear hsm hft hrr hr hrs hnn hsn hl
        go_wp2_with fail
        refine (HSG.out _).mono ?_
        rintro e w3 ⟨rfl, rfl⟩
        go_wp2
        go_ret2
        exact shrink_eq HWP.out.1 HWP.out.2 ⟨_, rfl, HR.out, hbw⟩
    · have hstop := HSTOP.out (by omega) (by omega)
      have hno : firstT smallB (tourP xss f) = none := by
        rw [← hstop]
        exact firstT_no fun j hj => HNO2.out j (by omega)
      have HWP : Hid (wordP smallB (tourP xss f) = [] ∧ (firstT smallB (tourP xss f)).isSome = false) := ⟨by unfold wordP; rw [hno]; rfl, by rw [hno]; rfl⟩
      have HE := Lib.hid (own_empty wr w.heap.size hlo 2)
      rw [Tour.sets_len', hlen2]
      clear hstop hno hT hl hrs hnn hsn
      go_wp2
      go_ret2
      exact shrink_eq HWP.out.1 HWP.out.2 ⟨_, rfl, HE.out, hbw.trans ((below_alloc (Below.refl _ _) _).mono hlo)⟩

end Go.Proofs.Ytlgnbbfhejjodaa
