/- The two lists of the actions and of their words, while they are made; l01Find, l01All of the reference. -/
import Derived.Test.YtocdkeidjocmkaaMonoidLaw
import Derived.Test.YtocdkeidjocmkaaPlace
import Derived.Test.YtocdkeidjocmkaaSame1
import Derived.Test.YtocdkeidjocmkaaStep
import Derived.Test.YtocdkeidjocmkaaBits
namespace Go.Proofs.Ytocdkeidjocmkaa
set_option linter.unusedVariables false
set_option linter.unusedSimpArgs false
open Go.ChangeShapes Go.WideShapes Go.ChangeAt Go.RowKit

def findRow (zss : List (List Int)) (zs : List Int) : Int := firstAt (fun k => decide (zss.getD k [] = zs)) zss.length
theorem findRow_in {zss : List (List Int)} {zs : List Int} (h : zs ∈ zss) : 0 ≤ findRow zss zs := by
  obtain ⟨i, hi, rfl⟩ := List.getElem_of_mem h
  unfold findRow firstAt
  rw [if_pos ⟨i, hi, decide_eq_true (by simp [List.getD_eq_getElem?_getD, hi])⟩]
  omega
theorem findRow_out {zss : List (List Int)} {zs : List Int} (h : zs ∉ zss) : findRow zss zs = -1 := by
  refine firstAt_no fun k hk => decide_eq_false fun e => h ?_
  rw [← e]
  exact getD_mem hk []

theorem l01Find_any (v u : Value) (zss : List (List Int)) (zs : List Int) (w : World) (h1 : Rows2 w v zss) (h2 : Ints w u zs) :
    Calls Try.prog 71 #[v, u] w (RetQ (.int .i64 (findRow zss zs)) w) := by
  obtain ⟨ao, b, o, c, H⟩ := h1.open
  have hv := H.val
  subst hv
  have hm := H.len
  have A1 := H.adr
  have HC := Lib.hid H.cell
  have HSM := Lib.hid (fun (r : Value) (y : List Int) W (hr : Ints w r y) (hW : Qu w W) => l00Same_any r u y zs W (hW.ints hr) (hW.ints h2))
  clear h1 H h2
  go_enter Try.func71, Try.ntmps71
  go_wp2
  go_loopw [5] (fun i wr => ∃ k : Nat, k ≤ zss.length ∧ i = .int .i64 k ∧ Hid (∀ j, j < k → zss.getD j [] ≠ zs) ∧ Qu w wr) (fun i _ => zss.length - (intOf i).toNat)
  case atStart => exact ⟨0, Nat.zero_le _, rfl, fun j hj => absurd hj (by omega), Qu.refl _⟩
  case round =>
    obtain ⟨k, hk, rfl, HN, hq⟩ := hrel
    by_cases hlt : k < zss.length
    · have i1 := idx_of Try.underlying22 size1_ints (c := c) A1 hlt .i64
      obtain ⟨r, d1, hr⟩ := HC.out k hlt
      replace d1 := hq.cell d1
      have HS := Lib.hid (HSM.out r _ wr hr hq)
      obtain ⟨y, hy⟩ : ∃ y, y = zss.getD k [] := ⟨_, rfl⟩
      rw [← hy] at HS
      have HY := Lib.hid hy
      clear hy hr
      by_cases he : y = zs
      · have HR : Hid (findRow zss zs = (k : Int)) := firstAt_yes hlt (decide_eq_true (by rw [← HY.out]; exact he)) (fun j hj => decide_eq_false (HN.out j hj))
        rw [decide_eq_true he] at HS
        clear he
        go_wp2_with fail
        refine HS.out.mono ?_
        rintro e w2 ⟨rfl, hq2⟩
        have hqq := hq.trans hq2
        go_wp2
        go_ret
        exact ⟨ret_int HR.out.symm, hqq⟩
      · have HN2 : Hid (∀ j, j < k + 1 → zss.getD j [] ≠ zs) := fun j hj => by
          rcases Nat.lt_or_ge j k with h | h
          · exact HN.out j h
          · obtain rfl : j = k := by omega
            rw [← HY.out]; exact he
        rw [decide_eq_false he] at HS
        clear he
        go_wp2_with fail
        refine HS.out.mono ?_
        rintro e w2 ⟨rfl, hq2⟩
        have hqq := hq.trans hq2
        go_wp2
        go_roundw
        case rel => exact ⟨k + 1, by omega, by go_num, HN2.out, hqq⟩
        case measure => simp [intOf]; omega
    · have HR : Hid (findRow zss zs = -1) := firstAt_no fun j hj => decide_eq_false (HN.out j (by omega))
      go_wp2
      go_ret
      exact ⟨ret_int HR.out.symm, hq⟩

theorem run_snoc (k : Nat) : (run 0 k).map (Value.int .i64) ++ [.int .i64 (k : Int)] = (run 0 (k + 1)).map (Value.int .i64) := by
  unfold run
  rw [List.range_succ, List.map_append, List.map_append]
  simp
theorem l01AllRun_any (n : Nat) (w : World) (hn : n ≤ 10) : Calls Try.prog 95 #[.int .i64 n] w (NewInts (run 0 n) w) := by
  have HE := Lib.hid (own_empty w w.heap.size (Nat.le_refl _) 2)
  have hbe : Below w.heap.size w (w.alloc (.cells #[] 2)) := below_alloc (Below.refl _ _) _
  go_enter Try.func95, Try.ntmps95
  go_wp2
  go_loopw [3, 4] (fun u i wr => ∃ k : Nat, k ≤ n ∧ i = .int .i64 k ∧ Hid (wr.ownsRow w.heap.size 2 1 u k ((run 0 k).map (Value.int .i64))) ∧ Below w.heap.size w wr) (fun _ i _ => n - (intOf i).toNat)
  case atStart => exact ⟨0, Nat.zero_le _, rfl, HE.out, hbe⟩
  case round =>
    obtain ⟨k, hk, rfl, HO, hb⟩ := hrel
    by_cases hlt : k < n
    · go_wp2_with (at_builtin; refine wpList_push elem_int rfl (.tmp 11) (.tmp 13) rfl w.heap.size rfl HO.out _ rfl rfl (by unfold maxLen; omega) (by omega) hb.size ?_; intro v6 w6 ho6 hg6 hs6)
      rw [run_snoc] at ho6
      have HO6 := Lib.hid ho6
      have hb6 : Below w.heap.size w w6 := Below.grown hb hg6 hb.size (fun g hg => (own_block HO.out hg).1)
      clear ho6 hg6 hs6
      go_wp2
      go_roundw
      case rel => exact ⟨k + 1, by omega, by go_num, HO6.out, hb6⟩
      case measure => simp [intOf]; omega
    · obtain rfl : k = n := by omega
      go_wp2
      go_ret
      exact ⟨_, rfl, by rw [run_length]; exact HO.out, hb⟩

theorem OwnRows.keepAll {w w' : World} {lo : Nat} {v : Value} {rs : List Value} {zss : List (List Int)} {row : Option Nat} (h : OwnRows w lo v rs zss) (hg : w.grownBy w' row) (hne : v.ownBlock = none ∨ v.ownBlock ≠ row) (hrow : ∀ k, k < zss.length → (rs.getD k undef).ownBlock = none ∨ (rs.getD k undef).ownBlock ≠ row) : OwnRows w' lo v rs zss :=
  ⟨h.outer.kept hg hne, fun k hk => (h.row k hk).kept hg (hrow k hk), h.apart⟩
/-- the list of the actions, the list of their words -/
structure MMid (W w : World) (lo : Nat) (av wv : Value) (K Z : List (List Int)) : Prop where
  acts : ∃ rs, OwnRows w lo av rs K
  words : ∃ rs, OwnRows w lo wv rs Z ∧ ∀ k, k < Z.length → (rs.getD k undef).ownBlock ≠ none
  apart : av.ownBlock = none ∨ av.ownBlock ≠ wv.ownBlock
  below : Below lo W w
  low : lo ≤ w.heap.size
section
variable {W w w' w5 w6 w7 w8 : World} {lo : Nat} {av wv v' v6 v7 v8 r : Value} {K Z : List (List Int)} {rs : List Value} {ys zs : List Int} {x : Int}
theorem MMid.next (h : MMid W w lo av wv K Z) (hb : Below w.heap.size w w') : MMid W w' lo av wv K Z :=
  ⟨by obtain ⟨rs, h1⟩ := h.acts; exact ⟨rs, h1.below hb⟩, by obtain ⟨rs, h1, h2⟩ := h.words; exact ⟨rs, h1.below hb, h2⟩, h.apart, h.below.trans (hb.mono h.low), Nat.le_trans h.low hb.size⟩
theorem MMid.pushAct (h : MMid W w lo av wv K Z) (hrs : OwnRows w lo av rs K) {lo2 : Nat} (hr : w.ownsRow lo2 2 1 r ys.length (ys.map (Value.int .i64))) (hl : lo ≤ lo2) (hne : ∀ i, i < K.length → (rs.getD i undef).ownBlock = none ∨ (rs.getD i undef).ownBlock ≠ r.ownBlock)
    (hg : w.grownBy w' av.ownBlock) (ho : w'.ownsRow lo 55 1 v' (K.length + 1) (rs ++ [r])) (hs : SameOrNew av v' w.heap.size) : MMid W w' lo v' wv (K ++ [ys]) Z := by
  obtain ⟨rw, hw, hnn⟩ := h.words
  have hpo := push_other hg hs hw.outer (apart_symm h.apart)
  exact ⟨⟨_, hrs.pushed hg ho hr hl hne⟩, ⟨rw, hw.keepAll hg (apart_symm h.apart) (fun k hk => own_ne (hw.row k hk) hrs.outer (by decide)), hnn⟩, apart_symm hpo.2, h.below.grown hg h.low (fun g hg => (own_block hrs.outer hg).1), Nat.le_trans h.low hg.size⟩
theorem MMid.outer7 (hrs : OwnRows w lo wv rs Z) (hb6 : Below w.heap.size w w6) (ho6 : w6.ownsRow w.heap.size 2 1 v6 zs.length (zs.map (Value.int .i64))) (hg7 : w6.grownBy w7 v6.ownBlock) : w7.ownsRow lo 55 1 wv Z.length rs :=
  (hrs.below hb6).outer.kept hg7 (own_ne (hrs.below hb6).outer ho6 (by decide))
theorem MMid.pushWord (h : MMid W w lo av wv K Z) (hrs : OwnRows w lo wv rs Z) (hnn : ∀ k, k < Z.length → (rs.getD k undef).ownBlock ≠ none) (hb6 : Below w.heap.size w w6) (ho6 : w6.ownsRow w.heap.size 2 1 v6 zs.length (zs.map (Value.int .i64)))
    (hg7 : w6.grownBy w7 v6.ownBlock) (ho7 : w7.ownsRow w.heap.size 2 1 v7 (zs.length + 1) (zs.map (Value.int .i64) ++ [.int .i64 x])) (hg8 : w7.grownBy w8 wv.ownBlock) (ho8 : w8.ownsRow lo 55 1 v8 (Z.length + 1) (rs ++ [v7])) (hs8 : SameOrNew wv v8 w7.heap.size) : MMid W w8 lo av v8 K (Z ++ [zs ++ [x]]) := by
  have hl := h.low
  obtain ⟨ra, ha⟩ := h.acts
  have o6 := hrs.below hb6
  have a6 := ha.below hb6
  have o7 : OwnRows w7 lo wv rs Z := ⟨MMid.outer7 hrs hb6 ho6 hg7, fun k hk => (o6.row k hk).kept hg7 (apart_of_new (hrs.row k hk) ho6), o6.apart⟩
  have a7 : OwnRows w7 lo av ra K := ⟨a6.outer.kept hg7 (own_ne a6.outer ho6 (by decide)), fun k hk => (a6.row k hk).kept hg7 (apart_of_new (ha.row k hk) ho6), a6.apart⟩
  have b7 : Below lo W w7 := (h.below.trans (hb6.mono hl)).grown hg7 (Nat.le_trans hl hb6.size) (fun g hg => Nat.le_trans hl (own_block ho6 hg).1)
  have l7 : lo ≤ w7.heap.size := Nat.le_trans (Nat.le_trans hl hb6.size) hg7.size
  have r7 : w7.ownsRow lo 2 1 v7 (zs ++ [x]).length ((zs ++ [x]).map (Value.int .i64)) := by
    rw [List.map_append, List.length_append]
    exact own_lo ho7 hl
  have hpo := push_other hg8 hs8 a7.outer h.apart
  refine ⟨⟨ra, a7.keepAll hg8 h.apart (fun k hk => own_ne (a7.row k hk) o7.outer (by decide))⟩, ⟨rs ++ [v7], o7.append hg8 ho8 r7 (fun k hk => apart_of_new (hrs.row k hk) ho7), fun k hk => ?_⟩, hpo.2, b7.grown hg8 l7 (fun g hg => (own_block o7.outer hg).1), Nat.le_trans l7 hg8.size⟩
  rw [List.length_append, List.length_singleton] at hk
  have hlen := hrs.len
  by_cases hin : k < Z.length
  · rw [show (rs ++ [v7]).getD k undef = rs.getD k undef by simp [List.getD_eq_getElem?_getD, List.getElem?_append, hlen, hin]]
    exact hnn k hin
  · obtain rfl : k = Z.length := by omega
    rw [show (rs ++ [v7]).getD Z.length undef = v7 by simp [List.getD_eq_getElem?_getD, hlen]]
    obtain ⟨g, cap, e, _⟩ := own_some ho7 (by omega)
    rw [e]
    simp [Value.ownBlock]
end
/-- row k of rows that the call owns, at its cells -/
theorem own_row_at {w : World} {lo g c : Nat} {rs : List Value} {Z : List (List Int)} (h : OwnRows w lo (.slice (some ⟨g, 0, none⟩) Z.length c) rs Z) {k : Nat} (hk : k < Z.length) (h0 : (rs.getD k undef).ownBlock ≠ none) :
    ∃ rg rc, w.cell? ⟨g, k, none⟩ = some (.slice (some ⟨rg, 0, none⟩) (Z.getD k []).length rc) ∧ ∀ j, j < (Z.getD k []).length → w.cell? ⟨rg, j, none⟩ = some (.int .i64 ((Z.getD k []).getD j 0)) := by
  have hr := h.row k hk
  have hl := h.len
  rcases hr.2 with ⟨e, _⟩ | ⟨rg, rc, cur, e, _⟩
  · exact absurd (by rw [e]; rfl) h0
  · refine ⟨rg, rc, ?_, fun j hj => ?_⟩
    · rw [h.outer.cellAt k (by omega), ← e]
      rw [List.getD_eq_getElem?_getD, List.getElem?_eq_getElem (by omega)]
      rfl
    · rw [e] at hr
      generalize Z.getD k [] = l at hr hj
      exact own_int_at hr hj

end Go.Proofs.Ytocdkeidjocmkaa
