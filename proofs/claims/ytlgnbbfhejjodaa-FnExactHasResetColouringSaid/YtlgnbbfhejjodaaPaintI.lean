/- newPaint and count, of the program. -/
import Derived.Test.YtlgnbbfhejjodaaPaint
namespace Go.Proofs.Ytlgnbbfhejjodaa
set_option linter.unusedVariables false
set_option linter.unusedSimpArgs false
open Go.ChangeShapes Go.WideShapes Go.ChangeAt Go.RowKit

/-- the roads with the lists in the making at block pb -/
structure PInv (W w : World) (pb : Nat) (st : Int) (ov v : Value) (rs : List Value) (ls : List (List (List Int))) : Prop where
  ch : Chg pb (pb + 1) W w
  c0 : w.cell? ⟨pb, 0, none⟩ = some (.int .i64 st)
  c1 : w.cell? ⟨pb, 1, none⟩ = some ov
  c2 : w.cell? ⟨pb, 2, none⟩ = some v
  f2 : w.frozen? ⟨pb, 2, none⟩ = false
  own : OwnLists w (pb + 1) v rs ls
theorem PInv.give {W w w2 w6 : World} {pb : Nat} {st : Int} {ov v v6 r : Value} {rs rss : List Value} {ls : List (List (List Int))} {zss : List (List Int)} (h : PInv W w pb st ov v rs ls) (hW : W.heap.size = pb + 1) (hb : Below w.heap.size w w2)
    (hr : OwnRows w2 (pb + 1) r rss zss) (ho : w6.ownsRow (pb + 1) 22 1 v6 (ls.length + 1) (rs ++ [r])) (hg : w2.grownBy w6 v.ownBlock) : PInv W (w6.setCell ⟨pb, 2, none⟩ v6) pb st ov v6 (rs ++ [r]) (ls ++ [zss]) := by
  have h2 := h.own.below hb
  have hne : v.ownBlock ≠ some pb := fun e => by have := own_block h.own.outer e; omega
  have c0 := gcell hg hne (below_cell hb h.c0)
  have c1 := gcell hg hne (below_cell hb h.c1)
  have c2 := gcell hg hne (below_cell hb h.c2)
  have f2 := gfrozen hg hne (below_cell hb h.c2) ((hb.frozen (p := ⟨pb, 2, none⟩) (block_lt_of_cell h.c2)).trans h.f2)
  have l2 : pb < w6.heap.size := block_lt_of_cell c2
  have G := grown_set (w := w6) (g := pb) (o := 2) (v := v6)
  refine ⟨⟨(G.os.trans hg.os).trans (hb.os.trans h.ch.os), (G.tape.trans hg.tape).trans (hb.tape.trans h.ch.tape), (G.output.trans hg.output).trans (hb.output.trans h.ch.output), Nat.le_trans h.ch.size (Nat.le_trans hb.size (Nat.le_trans hg.size G.size)), fun k hk hko => ?_⟩, ?_, ?_, ?_, ?_, (h2.pushed hg ho hr).keptBy G (fun g hg => by cases hg; omega)⟩
  · have hkp : k < pb := by omega
    have k1 : k < w.heap.size := Nat.lt_of_lt_of_le hk h.ch.size
    have k2 : k < w2.heap.size := Nat.lt_of_lt_of_le k1 hb.size
    rw [G.block k (Nat.lt_of_lt_of_le k2 hg.size) (by simp; omega), hg.block k k2 (fun e => by have := own_block h.own.outer e.symm; omega), hb.block k k1, h.ch.block k hk hko]
  · go_simp
  · go_simp
  · go_simp
  · go_simp

/-- roads with new lists -/
def NewPaint (st : Int) (ov : Value) (ls : List (List (List Int))) (w : World) (e : Ending) (w' : World) : Prop := ∃ v rs, e = .returned (.agg #[.int .i64 st, ov, v]) ∧ OwnLists w' w.heap.size v rs ls ∧ Below w.heap.size w w'

set_option maxRecDepth 100000 in
set_option maxHeartbeats 4000000 in
theorem newPaint_any (st : Int) (v : Value) (xss : List (List Int)) (w : World) (h1 : Rows2 w v xss) (hl : xss.length ≤ 7) (hr : ∀ s, s < xss.length → (xss.getD s []).length ≤ 3) :
    Calls Try.prog 76 #[.agg #[.int .i64 st, v]] w (NewPaint st v (choices xss) w) := by
  obtain ⟨ao, p, o, c, H⟩ := h1.open
  have hv := H.val
  subst hv
  have A1 := H.adr
  have hm := H.len
  have HROW := Lib.hid H.cell
  have HAR := Lib.hid (fun s (hs : s < xss.length) r W (hi : Ints W r (xss.getD s [])) => arrangements_any r (xss.getD s []) W hi (hr s hs))
  have HCT := Lib.hid (fun k (hk : k < xss.length) => choices_take xss k hk)
  have HCL := Lib.hid (choices_len xss)
  clear h1 H hr
  go_enter Try.func76, Try.ntmps76
  have hb0 : Below w.heap.size w (((w.alloc (.cells #[.int .i64 st, .slice ao xss.length c] 42)).alloc (.cells #[.int .i64 0, .slice none 0 0, .slice none 0 0] 95)).alloc (.cells #[.int .i64 st, .slice ao xss.length c, .slice none 0 0] 95)) := below_alloc (below_alloc (below_alloc (Below.refl _ _) _) _) _
  have s0 : (((w.alloc (.cells #[.int .i64 st, .slice ao xss.length c] 42)).alloc (.cells #[.int .i64 0, .slice none 0 0, .slice none 0 0] 95)).alloc (.cells #[.int .i64 st, .slice ao xss.length c, .slice none 0 0] 95)).heap.size = (w.heap.size + 1 + 1) + 1 := by simp
  have q0 : (((w.alloc (.cells #[.int .i64 st, .slice ao xss.length c] 42)).alloc (.cells #[.int .i64 0, .slice none 0 0, .slice none 0 0] 95)).alloc (.cells #[.int .i64 st, .slice ao xss.length c, .slice none 0 0] 95)).cell? ⟨w.heap.size + 1, 0, none⟩ = some (.int .i64 0) ∧ (((w.alloc (.cells #[.int .i64 st, .slice ao xss.length c] 42)).alloc (.cells #[.int .i64 0, .slice none 0 0, .slice none 0 0] 95)).alloc (.cells #[.int .i64 st, .slice ao xss.length c, .slice none 0 0] 95)).frozen? ⟨w.heap.size + 1, 0, none⟩ = false := ⟨by go_simp, by go_simp⟩
  have q1 : (((w.alloc (.cells #[.int .i64 st, .slice ao xss.length c] 42)).alloc (.cells #[.int .i64 0, .slice none 0 0, .slice none 0 0] 95)).alloc (.cells #[.int .i64 st, .slice ao xss.length c, .slice none 0 0] 95)).cell? ⟨w.heap.size + 1, 1, none⟩ = some (.slice none 0 0) ∧ (((w.alloc (.cells #[.int .i64 st, .slice ao xss.length c] 42)).alloc (.cells #[.int .i64 0, .slice none 0 0, .slice none 0 0] 95)).alloc (.cells #[.int .i64 st, .slice ao xss.length c, .slice none 0 0] 95)).frozen? ⟨w.heap.size + 1, 1, none⟩ = false := ⟨by go_simp, by go_simp⟩
  have q2 : (((w.alloc (.cells #[.int .i64 st, .slice ao xss.length c] 42)).alloc (.cells #[.int .i64 0, .slice none 0 0, .slice none 0 0] 95)).alloc (.cells #[.int .i64 st, .slice ao xss.length c, .slice none 0 0] 95)).cell? ⟨w.heap.size + 1, 2, none⟩ = some (.slice none 0 0) ∧ (((w.alloc (.cells #[.int .i64 st, .slice ao xss.length c] 42)).alloc (.cells #[.int .i64 0, .slice none 0 0, .slice none 0 0] 95)).alloc (.cells #[.int .i64 st, .slice ao xss.length c, .slice none 0 0] 95)).frozen? ⟨w.heap.size + 1, 2, none⟩ = false := ⟨by go_simp, by go_simp⟩
  have hp0 : PInv (((w.alloc (.cells #[.int .i64 st, .slice ao xss.length c] 42)).alloc (.cells #[.int .i64 0, .slice none 0 0, .slice none 0 0] 95)).alloc (.cells #[.int .i64 st, .slice ao xss.length c, .slice none 0 0] 95)) (((w.alloc (.cells #[.int .i64 st, .slice ao xss.length c] 42)).alloc (.cells #[.int .i64 0, .slice none 0 0, .slice none 0 0] 95)).alloc (.cells #[.int .i64 st, .slice ao xss.length c, .slice none 0 0] 95)) (w.heap.size + 1 + 1) st (.slice ao xss.length c) (.slice none 0 0) [] ((choices xss).take 0) := ⟨Chg.refl _ _ _, by go_simp, by go_simp, by go_simp, by go_simp, ownLists_nil _ _⟩
  go_wp2
  generalize (((w.alloc (.cells #[.int .i64 st, .slice ao xss.length c] 42)).alloc (.cells #[.int .i64 0, .slice none 0 0, .slice none 0 0] 95)).alloc (.cells #[.int .i64 st, .slice ao xss.length c, .slice none 0 0] 95)) = W3 at hb0 s0 hp0 q0 q1 q2 ⊢
  have HP0 := Lib.hid hp0
  have HB0 := Lib.hid hb0
  have HS0 := Lib.hid s0
  have HQ0 := Lib.hid q0
  have HQ1 := Lib.hid q1
  have HQ2 := Lib.hid q2
  have HRR := Lib.hid (fun s (hs : s < xss.length) => HROW.out s hs)
  clear hp0 hb0 s0 q0 q1 q2
  generalize hpb : w.heap.size + 1 + 1 = pb at HP0 HS0 ⊢
  have HPB := Lib.hid hpb
  clear hpb
  go_loopw [11] (fun i wr => ∃ k : Nat, k ≤ xss.length ∧ i = .int .i64 k ∧ Hid (∃ v rs, PInv W3 wr pb st (.slice ao xss.length c) v rs ((choices xss).take k))) (fun i _ => xss.length - (intOf i).toNat)
  case atStart => exact ⟨0, Nat.zero_le _, rfl, _, _, HP0.out⟩
  case round =>
    obtain ⟨k, hk, rfl, HT⟩ := hrel
    obtain ⟨v1, rs1, hP⟩ := HT.out
    have hbw : Below w.heap.size w wr := HB0.out.trans (hP.ch.below (by have := HS0.out; omega) |>.mono (by have := HPB.out; omega))
    have c0 := hP.c0
    have c1 := hP.c1
    have c2 := hP.c2
    have f2 := hP.f2
    have lp : pb < wr.heap.size := block_lt_of_cell c0
    obtain ⟨a1, m1, cc1, rfl, HM1⟩ := own_shape hP.own.outer
    have HPP := Lib.hid hP
    clear hP
    by_cases hlt : k < xss.length
    · have i1 := idx_of Try.underlying22 size1_ints (c := c) A1 hlt .i64
      obtain ⟨r1, dr, hr1⟩ := HRR.out k hlt
      replace dr := below_cell hbw dr
      have ldr := block_lt_of_cell dr
      have HC := Lib.hid (fun W (hW : Below wr.heap.size wr W) => HAR.out k hlt r1 W ((hr1.kept hbw).kept hW))
      have hkl : ((choices xss).take k).length = k := by rw [List.length_take, HCL.out]; omega
      have hpre : wr.ownsRow (pb + 1) 22 1 (.slice a1 m1 cc1) k rs1 := by have h := HPP.out.own.outer; rw [hkl] at h; exact h
      have HPR := Lib.hid hpre
      have HKL := Lib.hid hkl
      have hk7 : k ≤ 7 := by omega
      have hbr := Below.refl wr.heap.size wr
      clear hr1 hkl hpre
      go_wp2
      go_region_law
        (first
          | (refine step_appS elem_rows rfl (.tmp 16) (.tmp 19) rfl (pb + 1) (v := .slice a1 m1 cc1) rfl (own_below HPR.out (below_alloc hb2' _)) w2.heap.size (.slice a2 m2 c2') rfl (by go_simp) rfl (by unfold maxLen; omega) (by omega) (by have := hb2'.size; simp; omega) ?_; intro v6 w6 ho6 hg6 hs6; obtain ⟨a6, m6, c6, rfl, HM6⟩ := own_shape ho6; have hne6 : (Value.slice a1 m1 cc1).ownBlock ≠ some pb := (fun e => by have := own_block HPR.out e; omega); have q2 := gcell hg6 hne6 (below_cell (below_alloc hb2' _) c2); have q3 := gfrozen hg6 hne6 (below_cell (below_alloc hb2' _) c2) (((below_alloc hb2' _).frozen (p := ⟨pb, 2, none⟩) lp).trans f2); have lq : pb < w6.heap.size := block_lt_of_cell q2)
          | (go_simp; go_at_call 123; (with_reducible refine (HC.out _ (by first | exact hbr | exact hbr.drew)).mono ?_); rintro e w2 ⟨v2, rs2, rfl, ho2, hb2⟩; obtain ⟨a2, m2, c2', rfl, HM2⟩ := own_shape ho2.outer; have hb2' : Below wr.heap.size wr w2 := (by first | exact hb2 | exact below_trans hbr.drew hb2); have k2 := below_cell hb2' c2; have lk2 : pb < w2.heap.size := block_lt_of_cell k2))
      all_goals
        have hsz : pb + 1 ≤ wr.heap.size := by omega
        have ho2' : OwnRows (w2.alloc (.cells #[.slice a2 m2 c2'] 22)) (pb + 1) (.slice a2 m2 c2') rs2 (arrOf (xss.getD k [])) := (ho2.mono (by simpa using hsz)).below (below_alloc (Below.refl _ _) _)
        have hP6 := HPP.out.give HS0.out (below_alloc hb2' _) ho2' (by rw [HKL.out]; exact ho6) hg6
        rw [← HCT.out k hlt] at hP6
        have HP6 := Lib.hid hP6
        clear hP6 ho2' ho2 ho6 hg6 hs6 q2 q3
        go_wp2
        go_roundw
        case rel => exact ⟨k + 1, by omega, by go_num, _, _, HP6.out⟩
        case measure => simp [intOf]; omega
    · obtain rfl : k = xss.length := by omega
      have hpb1 : w.heap.size + 1 < pb := by have := HPB.out; omega
      have q0 := HPP.out.ch.cell HQ0.out.1 (.inl hpb1)
      have q1 := HPP.out.ch.cell HQ1.out.1 (.inl hpb1)
      have q2 := HPP.out.ch.cell HQ2.out.1 (.inl hpb1)
      have g0 := (World.frozen?_of_block (HPP.out.ch.block (w.heap.size + 1) (block_lt_of_cell HQ0.out.1) (.inl hpb1))).trans HQ0.out.2
      have g1 := (World.frozen?_of_block (HPP.out.ch.block (w.heap.size + 1) (block_lt_of_cell HQ0.out.1) (.inl hpb1))).trans HQ1.out.2
      have g2 := (World.frozen?_of_block (HPP.out.ch.block (w.heap.size + 1) (block_lt_of_cell HQ0.out.1) (.inl hpb1))).trans HQ2.out.2
      have lq := block_lt_of_cell q0
      go_wp2
      refine bodyPost_ret (v := .agg #[.int .i64 st, .slice ao xss.length c, .slice a1 m1 cc1]) (by simp [results, Try.results76, go_sem, q0, q1, q2]) rfl ⟨_, rs1, rfl, ?_, ?_⟩
      · have h := HPP.out.own
        rw [List.take_of_length_le (by rw [HCL.out]; omega)] at h
        exact (((h.keptBy grown_set (fun g hg => by cases hg; omega)).keptBy grown_set (fun g hg => by cases hg; omega)).keptBy grown_set (fun g hg => by cases hg; omega)).mono (by omega)
      · exact below_set (below_set (below_set hbw (by omega) _ _) (by omega) _ _) (by omega) _ _

theorem paintCount_any (st : Int) (ao : Option Addr) (m0 c0 : Nat) (v : Value) (ls : List (List (List Int))) (n d : Nat) (w : World) (h1 : Rows3 w v ls) (hg : GoodL n d ls) (hn : n ≤ 7) :
    Calls Try.prog 77 #[.agg #[.int .i64 st, .slice ao m0 c0, v]] w (RetB (.int .i64 (cntOf ls)) w) := by
  obtain ⟨al, p, o, c, H⟩ := h1.open
  have hv := H.val
  subst hv
  have hll := hg.len
  have A1 := H.adr
  have hm := H.len
  have HROW := Lib.hid H.cell
  have HST := Lib.hid (fun k (hk : k < ls.length) m (hm : m = (ls.getD k []).length) => cntTo_step hg hn (by omega) hm)
  have HS6 := Lib.hid (fun k (hk : k < ls.length) => hg.six k (by omega))
  have hbx : Below w.heap.size w (w.alloc (.cells #[.int .i64 st, .slice ao m0 c0, .slice al ls.length c] 95)) := below_alloc (Below.refl _ _) _
  clear h1 H hg hll
  go_enter Try.func77, Try.ntmps77
  go_wp2
  go_loopw [3, 9] (fun u i wr => ∃ k : Nat, k ≤ ls.length ∧ i = .int .i64 k ∧ u = .int .i64 (cntTo ls k) ∧ Below w.heap.size w wr) (fun _ i _ => ls.length - (intOf i).toNat)
  case atStart => exact ⟨0, Nat.zero_le _, rfl, rfl, hbx⟩
  case round =>
    obtain ⟨k, hk, rfl, rfl, hb⟩ := hrel
    by_cases hlt : k < ls.length
    · have i1 := idx_of Try.underlying91 size1_rows (c := c) A1 hlt .i64
      obtain ⟨r1, dr, hr1⟩ := HROW.out k hlt
      obtain ⟨a2, m2, c2, rfl, HM2⟩ := hr1.shape
      replace dr := below_cell hb dr
      have hm6 : m2 ≤ 6 := by have := HS6.out k hlt; have := HM2.out; omega
      obtain ⟨hmul, hle⟩ := HST.out k hlt m2 HM2.out
      generalize cntTo ls k = cc at hmul ⊢
      generalize hcs : cntTo ls (k + 1) = cs at hmul hle
      have HCS := Lib.hid hcs
      clear hcs hr1
      go_wp2_with fail
      refine (sizeRows_any _ _ _ _ (by omega)).mono ?_
      rintro e w2 ⟨rfl, rfl⟩
      go_wp2
      go_roundw
      case rel => exact ⟨k + 1, by omega, by go_num, by rw [HCS.out], hb⟩
      case measure => simp [intOf]; omega
    · obtain rfl : k = ls.length := by omega
      go_wp2
      go_ret
      exact ⟨rfl, hb⟩

set_option maxHeartbeats 4000000 in
theorem implCountCol_any (st : Int) (v : Value) (xss : List (List Int)) (w : World) (h1 : Rows2 w v xss) :
    Calls Try.prog 29 #[.agg #[.int .i64 st, v]] w (RetB (.tuple #[.int .i64 (ccOf st xss), .int .i64 (ccCd st xss)]) w) := by
  obtain ⟨ao, m, c, rfl, HM⟩ := h1.shape
  obtain ⟨W1, hW1⟩ : ∃ W1, W1 = w.alloc (.cells #[.int .i64 st, .slice ao m c] 42) := ⟨_, rfl⟩
  have bx : Below w.heap.size w W1 := by rw [hW1]; exact below_alloc (Below.refl _ _) _
  have p0 : W1.cell? ⟨w.heap.size, 0, none⟩ = some (.int .i64 st) := by rw [hW1]; go_simp
  have p1 : W1.cell? ⟨w.heap.size, 1, none⟩ = some (.slice ao m c) := by rw [hW1]; go_simp
  have HOK := Lib.hid (validRoad_any st _ xss W1 (h1.kept bx))
  cases hv : validR st xss
  · rw [show ccOf st xss = 0 by simp [ccOf, hv], show ccCd st xss = 1 by simp [ccCd, hv]]
    rw [hv] at HOK
    subst hW1
    clear hv h1
    go_enter Try.func29, Try.ntmps29
    go_wp2_with fail
    refine HOK.out.mono ?_
    rintro e w2 ⟨rfl, hb⟩
    go_wp2
    go_ret2
    exact ⟨rfl, below_trans bx hb⟩
  · obtain ⟨n, d, hg⟩ := goodR_of hv
    rw [show ccOf st xss = (cntOf (choices xss) : Int) by simp [ccOf, hv], show ccCd st xss = 0 by simp [ccCd, hv]]
    rw [hv] at HOK
    have HNP := Lib.hid (fun W (hW : Below w.heap.size w W) => newPaint_any st _ xss W (h1.kept hW) (by rw [hg.len]; exact hg.hi) (fun s hs => by rw [hg.row s (by rw [← hg.len]; exact hs)]; exact hg.d3))
    have HCN := Lib.hid (fun (u : Value) W (h : Rows3 W u (choices xss)) => paintCount_any st ao m c u (choices xss) n d W h hg.choices hg.hi)
    generalize cntOf (choices xss) = cn at HCN ⊢
    generalize choices xss = ls at HCN HNP
    subst hW1
    clear hv h1 hg
    go_enter Try.func29, Try.ntmps29
    go_wp2_with fail
    refine HOK.out.mono ?_
    rintro e w2 ⟨rfl, hb⟩
    replace p0 := below_cell hb p0
    replace p1 := below_cell hb p1
    have bw2 := below_trans bx hb
    go_wp2_with fail
    refine (HNP.out _ bw2).mono ?_
    rintro e w3 ⟨v3, rs3, rfl, ho3, hb3⟩
    have hr3 := ho3.reads
    clear ho3
    go_wp2_with fail
    refine (HCN.out _ _ hr3).mono ?_
    rintro e w4 ⟨rfl, hb4⟩
    have bw4 := below_trans bw2 (below_trans hb3 hb4)
    clear hr3
    go_wp2
    go_ret2
    exact ⟨rfl, bw4⟩

set_option maxHeartbeats 4000000 in
theorem specCountCol_any (st : Int) (v : Value) (xss : List (List Int)) (w : World) (h1 : RowsC w v xss) :
    Calls Try.prog 27 #[.agg #[.int .i64 st, v]] w (RetB (.tuple #[.int .i64 (ccOf st xss), .int .i64 (ccCd st xss)]) w) := by
  obtain ⟨ao, m, c, rfl, HM⟩ := h1.rows.shape
  obtain ⟨W1, hW1⟩ : ∃ W1, W1 = w.alloc (.cells #[.int .i64 st, .slice ao m c] 42) := ⟨_, rfl⟩
  have bx : Below w.heap.size w W1 := by rw [hW1]; exact below_alloc (Below.refl _ _) _
  have p0 : W1.cell? ⟨w.heap.size, 0, none⟩ = some (.int .i64 st) := by rw [hW1]; go_simp
  have p1 : W1.cell? ⟨w.heap.size, 1, none⟩ = some (.slice ao m c) := by rw [hW1]; go_simp
  have HOK := Lib.hid (l05Ok_any w.heap.size 0 st _ xss W1 p0 p1 (h1.rows.kept bx))
  cases hv : validR st xss
  · rw [show ccOf st xss = 0 by simp [ccOf, hv], show ccCd st xss = 1 by simp [ccCd, hv]]
    rw [hv] at HOK
    subst hW1
    clear hv h1
    go_enter Try.func27, Try.ntmps27
    go_wp2_with fail
    refine HOK.out.mono ?_
    rintro e w2 ⟨rfl, hq⟩
    have hb := hq.below (w.alloc (.cells #[.int .i64 st, .slice ao m c] 42)).heap.size
    go_wp2
    go_ret2
    exact ⟨rfl, below_trans bx hb⟩
  · obtain ⟨n, d, hg⟩ := goodR_of hv
    rw [show ccOf st xss = (cntOf (choices xss) : Int) by simp [ccOf, hv], show ccCd st xss = 0 by simp [ccCd, hv]]
    rw [hv] at HOK
    have HNP := Lib.hid (fun W (hW : Below W1.heap.size W1 W) => l05Choices_any w.heap.size _ xss W (below_cell hW p1) ((h1.kept bx).kept hW) (by rw [hg.len]; exact hg.hi) (fun s hs => by rw [hg.row s (by rw [← hg.len]; exact hs)]; exact hg.d3))
    have HCN := Lib.hid (fun (u : Value) W (h : Rows3 W u (choices xss)) => l05Count_any u (choices xss) n d W h hg.choices hg.hi)
    generalize cntOf (choices xss) = cn at HCN ⊢
    generalize choices xss = ls at HCN HNP
    subst hW1
    clear hv h1 hg
    go_enter Try.func27, Try.ntmps27
    go_wp2_with fail
    refine HOK.out.mono ?_
    rintro e w2 ⟨rfl, hq⟩
    have hb := hq.below (w.alloc (.cells #[.int .i64 st, .slice ao m c] 42)).heap.size
    go_wp2_with fail
    refine (HNP.out _ hb).mono ?_
    rintro e w3 ⟨v3, rs3, rfl, ho3, hb3⟩
    have hr3 := ho3.reads
    obtain ⟨a3, m3, c3, rfl, HM3⟩ := own_shape ho3.outer
    clear ho3
    go_wp2_with fail
    refine (HCN.out _ _ hr3).mono ?_
    rintro e w4 ⟨rfl, hb4⟩
    have bw4 := below_trans bx (below_trans hb (below_trans hb3 hb4))
    clear hr3
    go_wp2
    go_ret2
    exact ⟨rfl, bw4⟩

end Go.Proofs.Ytlgnbbfhejjodaa
