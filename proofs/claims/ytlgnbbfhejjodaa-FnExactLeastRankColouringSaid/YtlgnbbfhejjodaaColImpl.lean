/- at of the program: the colouring with a number. -/
import Derived.Test.YtlgnbbfhejjodaaColSpec
import Derived.Test.YtlgnbbfhejjodaaPaintI
import Derived.Test.YtlgnbbfhejjodaaFr
namespace Go.Proofs.Ytlgnbbfhejjodaa
set_option linter.unusedVariables false
set_option linter.unusedSimpArgs false
open Go.ChangeShapes Go.WideShapes Go.ChangeAt Go.RowKit

def colCell (ls : List (List (List Int))) (z r x s : Nat) : Int := if r ≤ s then (pickAt ls z s).getD x 0 else 0
/-- the rows when the towns from r on have been served -/
def colPart (ls : List (List (List Int))) (d z r : Nat) : List (List Int) := (List.range d).map fun x => (List.range ls.length).map (colCell ls z r x)
theorem colPart_len (ls : List (List (List Int))) (d z r : Nat) : (colPart ls d z r).length = d := by simp [colPart]
theorem colPart_row {ls : List (List (List Int))} {d z r x : Nat} (h : x < d) : (colPart ls d z r).getD x [] = (List.range ls.length).map (colCell ls z r x) := by simp [colPart, List.getD_eq_getElem?_getD, h]
theorem colPart_all (ls : List (List (List Int))) (d z : Nat) : colPart ls d z 0 = colRows ls d z := by
  unfold colPart colRows
  congr 1
theorem colPart_none (ls : List (List (List Int))) (d z : Nat) : colPart ls d z ls.length = List.replicate d (List.replicate ls.length 0) := by
  refine List.ext_getElem (by simp [colPart]) fun x h1 h2 => ?_
  simp only [colPart, List.getElem_map, List.getElem_range, List.getElem_replicate]
  refine List.ext_getElem (by simp) fun s h3 h4 => ?_
  simp only [List.getElem_map, List.getElem_range, List.getElem_replicate]
  unfold colCell
  rw [if_neg (by simp at h3; omega)]
theorem colPart_step {ls : List (List (List Int))} {d z p x : Nat} (hp : p < ls.length) (hx : x < d) : ((colPart ls d z (p + 1)).getD x []).set p ((pickAt ls z p).getD x 0) = (colPart ls d z p).getD x [] := by
  rw [colPart_row hx, colPart_row hx]
  refine List.ext_getElem (by simp) fun s h1 h2 => ?_
  rw [List.getElem_set]
  simp only [List.getElem_map, List.getElem_range]
  unfold colCell
  by_cases e : p = s
  · subst e; rw [if_pos rfl, if_pos (Nat.le_refl _)]
  · rw [if_neg e]
    by_cases h : p ≤ s
    · rw [if_pos h, if_pos (by omega)]
    · rw [if_neg h, if_neg (by omega)]
def mix (A B : List (List Int)) (x : Nat) : List (List Int) := A.take x ++ B.drop x
theorem mix_len {A B : List (List Int)} (h : A.length = B.length) {x : Nat} (hx : x ≤ A.length) : (mix A B x).length = A.length := by
  unfold mix; rw [List.length_append, List.length_take, List.length_drop]; omega
theorem mix_zero (A B : List (List Int)) : mix A B 0 = B := by simp [mix]
theorem mix_all {A B : List (List Int)} (h : A.length = B.length) : mix A B A.length = A := by
  unfold mix; rw [List.take_length, h, List.drop_length, List.append_nil]
theorem mix_at {A B : List (List Int)} (h : A.length = B.length) {x : Nat} (hx : x < A.length) : (mix A B x).getD x [] = B.getD x [] := by
  unfold mix
  have : (A.take x).length = x := by rw [List.length_take]; omega
  simp [List.getD_eq_getElem?_getD, List.getElem?_append, this]
theorem mix_len_at {A B : List (List Int)} {n : Nat} (hA : ∀ j, j < A.length → (A.getD j []).length = n) (hB : ∀ j, j < B.length → (B.getD j []).length = n) (h : A.length = B.length) {x : Nat} (hx : x ≤ A.length) {j : Nat} (hj : j < A.length) : ((mix A B x).getD j []).length = n := by
  unfold mix
  have hl : (A.take x).length = x := by rw [List.length_take]; omega
  by_cases hjx : j < x
  · rw [show (A.take x ++ B.drop x).getD j [] = A.getD j [] by simp [List.getD_eq_getElem?_getD, List.getElem?_append, hl, hjx, List.getElem?_take, hj]]
    exact hA j hj
  · rw [show (A.take x ++ B.drop x).getD j [] = B.getD j [] by
      simp [List.getD_eq_getElem?_getD, List.getElem?_append, hl, hjx, List.getElem?_drop]
      rw [show x + (j - x) = j by omega]]
    exact hB j (by omega)
theorem mix_next {A B : List (List Int)} (h : A.length = B.length) {x : Nat} (hx : x < A.length) : (mix A B x).set x (A.getD x []) = mix A B (x + 1) := by
  unfold mix
  have hl : (A.take x).length = x := by rw [List.length_take]; omega
  rw [List.set_append, if_neg (by omega), hl, Nat.sub_self]
  rw [List.drop_eq_getElem_cons (by omega : x < B.length), List.set_cons_zero, List.take_succ_eq_append_getElem hx, List.append_assoc]
  simp [List.getD_eq_getElem?_getD, hx]

theorem zero_rows_snoc (n x : Nat) : List.replicate x (List.replicate n (0 : Int)) ++ [List.replicate n 0] = List.replicate (x + 1) (List.replicate n 0) := by rw [List.replicate_succ']
theorem make_ints (n : Nat) (hn : n ≤ 1000) : ∀ W : World, (Instr.makeSlice 32 (.int .i64 (n : Int)) (.int .i64 (n : Int))).run Try.prog W = .ok (.slice (some ⟨W.heap.size, 0, none⟩) n n) (W.alloc (.cells (madeCells #[.int .i64 0] n) 2)) := by
  obtain ⟨i0, hi, hz0, hz1, hz2⟩ := info_parts elem_int.info
  intro W
  have h := run_makeSlice (P := Try.prog) W 32 2 i0 (.int .i64 0) Try.underlying32 hi hz0 .i64 .i64 n n (by omega) (Int.le_refl _) (by rw [hz1]; simp; omega) (by rw [hz2]; omega) (by omega)
  rw [hz1, show (Value.int .i64 0).cells = #[.int .i64 0] from rfl] at h
  simpa using h
theorem own_made {W : World} {lo n : Nat} (hl : lo ≤ W.heap.size) (hn : n ≤ 1000) : (W.alloc (.cells (madeCells #[.int .i64 0] n) 2)).ownsRow lo 2 1 (.slice (some ⟨W.heap.size, 0, none⟩) n n) (List.replicate n (0 : Int)).length ((List.replicate n (0 : Int)).map (Value.int .i64)) := by
  have h := World.ownsRow_lit (base := lo) (size := 1) (e := 2) W (madeCells #[.int .i64 0] n) n hl (by unfold maxLen; omega) (by rw [size_madeCells]; omega)
  rw [toList_madeCells_one] at h
  simpa using h

set_option maxRecDepth 100000 in
set_option maxHeartbeats 4000000 in
theorem paintAt_any (vr v : Value) (xss : List (List Int)) (ls : List (List (List Int))) (n d z : Nat) (w : World) (h0 : Rows2 w vr xss) (h1 : Rows3 w v ls) (hg : GoodL n d ls) (hx0 : 0 < xss.length) (hxd : (xss.getD 0 []).length = d) (hn1 : 1 ≤ n) (hn : n ≤ 7) (hd : 1 ≤ d) (hd3 : d ≤ 3) (hz : z ≤ 279936) :
    Calls Try.prog 81 #[.agg #[.int .i64 n, vr, v], .int .i64 z] w (NewAuto n (colRows ls d z) w) := by
  obtain ⟨ar, mr, cr, rfl, HMr⟩ := h0.shape
  obtain ⟨ao, p, o, c, H⟩ := h1.open
  have hv := H.val
  subst hv
  obtain rfl := hg.len
  have A1 := H.adr
  have hm := H.len
  have HROW := Lib.hid H.cell
  have HG := Lib.hid hg
  have HDG := Lib.hid (fun W (hW : Below w.heap.size w W) => degree_any ls.length _ xss W (h0.kept hW) hx0)
  rw [hxd] at HDG
  have hmk := make_ints ls.length (by omega)
  obtain ⟨W2, hW2⟩ : ∃ W2, W2 = (w.alloc (.cells #[.int .i64 (ls.length : Int), .slice ar mr cr, .slice ao ls.length c] 95)).alloc (.cells #[.int .i64 0, .slice none 0 0] 28) := ⟨_, rfl⟩
  have bW2 : Below w.heap.size w W2 := by rw [hW2]; exact below_alloc (below_alloc (Below.refl _ _) _) _
  have sW2 : W2.heap.size = w.heap.size + 1 + 1 := by rw [hW2]; simp
  have x1 : W2.cell? ⟨w.heap.size, 2, none⟩ = some (.slice ao ls.length c) := by rw [hW2]; go_simp
  have x2 : W2.cell? ⟨w.heap.size + 1, 0, none⟩ = some (.int .i64 0) := by rw [hW2]; go_simp
  have x3 : W2.cell? ⟨w.heap.size + 1, 1, none⟩ = some (.slice none 0 0) := by rw [hW2]; go_simp
  have y2 : W2.frozen? ⟨w.heap.size + 1, 0, none⟩ = false := by rw [hW2]; go_simp
  have y3 : W2.frozen? ⟨w.heap.size + 1, 1, none⟩ = false := by rw [hW2]; go_simp
  have hO0 : OutAt (W2.alloc (.cells #[.int .i64 (ls.length : Int), .slice none 0 0] 28)) W2.heap.size (W2.heap.size + 1) ls.length (List.replicate 0 (List.replicate ls.length 0)) := ⟨_, [], by go_simp, by go_simp, by go_simp, ownRows_nil _ _⟩
  have hB0 : Below W2.heap.size W2 (W2.alloc (.cells #[.int .i64 (ls.length : Int), .slice none 0 0] 28)) := below_alloc (Below.refl _ _) _
  have HO0 := Lib.hid hO0
  have HB0 := Lib.hid hB0
  obtain ⟨ob, hob⟩ : ∃ ob, ob = w.heap.size + 1 + 1 := ⟨_, rfl⟩
  rw [sW2, ← hob] at HO0 HB0
  have hs2 : ob ≤ W2.heap.size := by omega
  have hs3 : w.heap.size ≤ ob := by omega
  have hsob : (W2.alloc (.cells #[.int .i64 (ls.length : Int), .slice none 0 0] 28)).heap.size = ob + 1 := by simp [sW2]; omega
  have HSOB := Lib.hid hsob
  rw [hW2] at HO0 HB0 HSOB
  have hbz : Below w.heap.size w (W2.alloc (.cells #[.int .i64 (ls.length : Int), .slice none 0 0] 28)) := below_alloc bW2 _
  rw [hW2] at hbz
  clear h0 h1 hg H hO0 hB0 hsob hxd hx0 HMr
  go_enter Try.func81, Try.ntmps81
  go_wp2_with fail
  refine (HDG.out _ hbz).mono ?_
  rintro e w5 ⟨rfl, hb5⟩
  have hO5 := HO0.out.below hb5
  have hB5 := HB0.out.trans (hb5.mono (by rw [HSOB.out]; omega))
  rw [← hW2] at hB5
  have HO5 := Lib.hid hO5
  have hl5 : ob < w5.heap.size := by have h := hb5.size; rw [HSOB.out] at h; omega
  clear hO5 hb5 hbz HO0 HB0 HSOB
  rw [← hob]
  have HOBE := Lib.hid hob
  have hob1 : w.heap.size + 1 < ob := by omega
  clear hob hW2
  go_wp2
  go_loopw [17] (fun i wr => ∃ k : Nat, k ≤ d ∧ i = .int .i64 k ∧ Hid (OutAt wr ob (ob + 1) ls.length (List.replicate k (List.replicate ls.length 0))) ∧ Below ob W2 wr) (fun i _ => d - (intOf i).toNat)
  case atStart => exact ⟨0, Nat.zero_le _, rfl, HO5.out, hB5⟩
  case round =>
    obtain ⟨k, hk, rfl, HO, hb⟩ := hrel
    have hbw : Below w.heap.size w wr := bW2.trans (hb.mono hs3)
    by_cases hlt : k < d
    · obtain ⟨v0, rs, k0, k1, g1, ho⟩ := HO.out
      obtain ⟨av, mv, cv, rfl, HMv⟩ := own_shape ho.outer
      have hou := ho.outer
      rw [List.length_replicate] at hou
      have HOU := Lib.hid hou
      have HOW := Lib.hid ho
      have hlob : ob < wr.heap.size := block_lt_of_cell k1
      have hbr := Below.refl wr.heap.size wr
      have hbl2 : ∀ a b, Below wr.heap.size wr ((wr.alloc a).alloc b) := fun a b => below_alloc (below_alloc (Below.refl _ _) _) _
      clear hou ho HO HMv
      go_wp2
      go_region_law
        (first
          | (refine step_appG elem_ints rfl (.tmp 20) (.tmp 24) rfl (ob + 1) rfl (by first | exact own_below HOU.out (hbl2 _ _) | exact own_drew (own_below HOU.out (hbl2 _ _))) (wr.heap.size + 1) (.slice (some ⟨wr.heap.size, 0, none⟩) ls.length ls.length) rfl (by go_simp) rfl (by unfold maxLen; omega) (by omega) (by simp; omega) ?_; intro v6 w6 ho6 hg6; have hbX : Below wr.heap.size wr _ := (by first | exact hbl2 (.cells (madeCells #[.int .i64 0] ls.length) 2) (.cells #[.slice (some ⟨wr.heap.size, 0, none⟩) ls.length ls.length] 32)); obtain ⟨a6, m6, c6, rfl, HM6⟩ := own_shape ho6; have hg7 : ((wr.alloc (.cells (madeCells #[.int .i64 0] ls.length) 2)).alloc (.cells #[.slice (some ⟨wr.heap.size, 0, none⟩) ls.length ls.length] 32)).grownBy w6 (Value.slice av mv cv).ownBlock := ⟨hg6.os, hg6.tape, hg6.output, hg6.size, hg6.block⟩; have j1 := below_cell hbX k1; have j0 := below_cell hbX k0; have q1 := (hbX.frozen (p := ⟨ob, 1, none⟩) hlob).trans g1; have rc1 := grown_cell hg7 (own_below HOU.out hbX) (Nat.lt_succ_self _) j1; have rc2 := grown_frozen hg7 (own_below HOU.out hbX) (Nat.lt_succ_self _) j1 q1; have lr6 := block_lt_of_cell rc1))
      all_goals
        have hr5 := World.ownsRow.alloc (own_made (W := wr) (lo := wr.heap.size) (n := ls.length) (Nat.le_refl _) (by omega)) (.cells #[.slice (some ⟨wr.heap.size, 0, none⟩) ls.length ls.length] 32)
        have hout := OutAt.pushed (HOW.out.below hbX) j0 j1 q1 (Nat.lt_succ_self _) hg7 (by rw [List.length_replicate]; exact ho6) hr5 (by omega) (HOW.out.apart_new hr5)
        rw [zero_rows_snoc] at hout
        have HOUT := Lib.hid hout
        have hb7 : Below ob W2 (w6.setCell ⟨ob, 1, none⟩ (.slice a6 m6 c6)) := (Below.grown (hb.trans (hbX.mono (by omega))) hg7 (by simp; omega) (fun g hg => by have := own_block HOU.out hg; omega)).setCell (p := ⟨ob, 1, none⟩) (Nat.le_refl _) _
        clear hout hr5 ho6 hg6 hg7 j0 j1 q1
        go_wp2
        go_roundw
        case rel => exact ⟨k + 1, by omega, by go_num, HOUT.out, hb7⟩
        case measure => simp [intOf]; omega
    · obtain rfl : k = d := by omega
      obtain ⟨wo, rfl⟩ : ∃ wo : World, wo = wr := ⟨_, rfl⟩
      have hO := HO.out
      obtain ⟨v0, rs, k0, k1, g1, ho⟩ := hO
      rw [← colPart_none ls k z] at ho
      have hkp : 0 < (colPart ls k z ls.length).length := by rw [colPart_len]; omega
      obtain ⟨og, oc, rfl, _⟩ := own_some ho.outer hkp
      rw [colPart_len] at k1 ho
      have hl1 := Below.cellOf hb x1 (by omega)
      have lob : ob < wo.heap.size := block_lt_of_cell k1
      have hrl := ho.len
      rw [colPart_len] at hrl
      have HRW : Hid (∀ j, j < k → ∀ g, (rs.getD j undef).ownBlock = some g → ob + 1 ≤ g ∧ g < wo.heap.size) := fun j hj g hg => own_block (ho.row j (by rw [colPart_len]; exact hj)) hg
      have hfr : ∀ b, b ≤ ob ∨ wo.heap.size ≤ b → ∀ j, j < rs.length → some b ≠ (rs.getD j undef).ownBlock := fun b hb j hj e => by
        have := HRW.out j (by omega) b e.symm
        omega
      have HFR := Lib.hid hfr
      have HRL := Lib.hid hrl
      have HO2 := Lib.hid ho
      have hnl0 : Hid (numLeft ls z (ls.length - ls.length) = z) := by unfold Hid; rw [Nat.sub_self]; rfl
      have HPL : Hid (∀ s, s < ls.length → (pickAt ls z s).length = k) := fun s hs => (HG.out.row s hs _ (HG.out.pick z hs)).1
      have HWL : Hid (∀ r x, x < k → ((colPart ls k z r).getD x []).length = ls.length) := fun r x hx => by rw [colPart_row hx]; simp
      clear hfr ho HO hkp hrl
      go_wp2
      go_loopw [1, 6] (fun u i wq => ∃ r : Nat, r ≤ ls.length ∧ i = .int .i64 ((r : Int) - 1) ∧ u = .int .i64 (numLeft ls z (ls.length - r) : Nat) ∧ Hid (OwnRows wq (ob + 1) (.slice (some ⟨og, 0, none⟩) k oc) rs (colPart ls k z r)) ∧ Hid (Fr rs wo wq) ∧ Below ob W2 wq) (fun _ i _ => (intOf i + 1).toNat)
      case atStart => exact ⟨ls.length, Nat.le_refl _, by go_num, by rw [hnl0.out], HO2.out, Fr.refl _ _, hb⟩
      case round =>
        obtain ⟨r, hr, rfl, rfl, HOQ, HFQ, hbq⟩ := hrel
        have hbwq : Below w.heap.size w wr := bW2.trans (hbq.mono hs3)
        have hzq : r = 0 ∨ ∃ p : Nat, r = p + 1 := by cases r with
          | zero => exact .inl rfl
          | succ p => exact .inr ⟨p, rfl⟩
        rcases hzq with rfl | ⟨p1, rfl⟩
        · rw [show (((0 : Nat) : Int)) - 1 = -1 by omega]
          have c0 := HFQ.out.cell k0 (HFR.out ob (.inl (Nat.le_refl _)))
          have c1 := HFQ.out.cell k1 (HFR.out ob (.inl (Nat.le_refl _)))
          have lq : ob < wr.heap.size := block_lt_of_cell c1
          have e2 := Below.cellOf hbq x2 (by omega)
          have e3 := Below.cellOf hbq x3 (by omega)
          have z2 := (hbq.frozen (p := ⟨w.heap.size + 1, 0, none⟩) (by show w.heap.size + 1 < ob; omega)).trans y2
          have z3 := (hbq.frozen (p := ⟨w.heap.size + 1, 1, none⟩) (by show w.heap.size + 1 < ob; omega)).trans y3
          have l2 := block_lt_of_cell e2
          have hoq := HOQ.out
          rw [colPart_all] at hoq
          have HOF := Lib.hid hoq
          have HBW := Lib.hid hbwq
          clear hoq
          go_wp2
          refine bodyPost_ret (v := .agg #[.int .i64 (ls.length : Int), .slice (some ⟨og, 0, none⟩) k oc]) (by simp [results, Try.results81, go_sem, e2, e3, l2]) rfl ⟨_, rs, rfl, ?_, ?_⟩
          · refine OwnRows.mono (lo := ob + 1) ?_ (by omega)
            repeat (first | exact HOF.out | refine OwnRows.set_below ?_ (by first | omega | simp) _ _)
          · repeat (first | exact HBW.out | refine below_set ?_ (by first | omega | simp) _ _)
        · rw [show (((p1 + 1 : Nat) : Int)) - 1 = (p1 : Int) by omega]
          have hpl : p1 < ls.length := by omega
          have HNX := Lib.hid (numLeft_step (z := z) hpl)
          have HPK := Lib.hid (pickAt_def (ls := ls) (z := z) (p := p1))
          have hale := numLeft_le ls z (ls.length - (p1 + 1))
          generalize numLeft ls z (ls.length - (p1 + 1)) = a at HNX HPK hale ⊢
          have e1 := Below.cellOf hbq x1 (by omega)
          have le1 := block_lt_of_cell e1
          have i1 := idx_of Try.underlying91 size1_rows (c := c) A1 hpl .i64
          obtain ⟨r1, dr, hr1⟩ := HROW.out p1 hpl
          replace dr := below_cell hbwq dr
          have ldr := block_lt_of_cell dr
          have hm0 := HG.out.pos p1 hpl
          have hm6 := HG.out.six p1 hpl
          obtain ⟨m, hmm⟩ : ∃ m, m = (ls.getD p1 []).length := ⟨_, rfl⟩
          rw [← hmm] at hm0 hm6 HNX HPK
          have hal : a % m < m := Nat.mod_lt _ hm0
          obtain ⟨a2, p2, o2, c2, H2⟩ := hr1.open
          have hv2 := H2.val
          rw [← hmm] at hv2
          subst hv2
          obtain ⟨r3, dr3, hr3⟩ := H2.cell (a % m) (by rw [← hmm]; exact hal)
          have A2 := H2.adr
          rw [← hmm] at A2
          have i2 := idx_of Try.underlying22 size1_ints (c := c2) A2 hal .i64
          replace dr3 := below_cell hbwq dr3
          have ldr3 := block_lt_of_cell dr3
          rw [← HPK.out] at hr3
          obtain ⟨a3, p3, o3, c3, H3⟩ := hr3.open
          have hv3 := H3.val
          rw [HPL.out p1 hpl] at hv3
          subst hv3
          have A3 := H3.adr
          rw [HPL.out p1 hpl] at A3
          have HC3 := Lib.hid (fun x (hx : x < k) => H3.at (k := x) (by rw [HPL.out p1 hpl]; exact hx))
          have hmz : (m : Int) ≠ 0 := by omega
          have hadl : a % m < 7 := by omega
          have hqle : a / m ≤ a := Nat.div_le_self _ _
          have HWQ : Hid (wrap64 ((a : Int) / (m : Int)) = ((a / m : Nat) : Int)) := by unfold Hid; rw [← Int.natCast_ediv, wrap64_i64]; exact wrap_i64_in _ (Int.natCast_nonneg _) (by have h9 : ((a / m : Nat) : Int) ≤ (a : Int) := Int.ofNat_le.2 hqle; omega)
          have hrem := tmod_nat a m
          clear hr1 hr3 H2 H3 hmm HPK
          go_wp2_with fail
          refine (sizeRows_any _ _ _ _ (by omega)).mono ?_
          rintro e w6 ⟨rfl, rfl⟩
          go_wp2
          go_quiet (fail)
          have hoq := Qu.ownRows ⟨nq, rfl⟩ HOQ.out
          have hfq := HFQ.out.below (below_drewN' (Below.refl _ _) nq)
          have hbq2 := below_drewN' hbq nq
          have HWI0 : Hid (OwnRows (w6.drewN nq) (ob + 1) (.slice (some ⟨og, 0, none⟩) k oc) rs (mix (colPart ls k z p1) (colPart ls k z (p1 + 1)) 0)) := by rw [mix_zero]; exact hoq
          have HFI0 := Lib.hid hfq
          have HAB : Hid ((colPart ls k z p1).length = (colPart ls k z (p1 + 1)).length ∧ (colPart ls k z p1).length = k) := ⟨by rw [colPart_len, colPart_len], colPart_len _ _ _ _⟩
          have HSTP := Lib.hid (fun x (hx : x < k) => colPart_step (ls := ls) (d := k) (z := z) hpl hx)
          have HWA := Lib.hid (HWL.out p1)
          have HWB := Lib.hid (HWL.out (p1 + 1))
          clear hoq hfq dr3 dr e1 hal i1 i2 A2
          generalize w6.drewN nq = wi at HWI0 HFI0 hbq2 ⊢
          generalize hCA : colPart ls k z p1 = CA at HWI0 HAB HSTP HWA
          have HCA := Lib.hid hCA
          clear hCA
          generalize colPart ls k z (p1 + 1) = CB at HWI0 HAB HSTP HWB
          go_wp2
          go_loopw [53] (fun i wq => ∃ x : Nat, x ≤ k ∧ i = .int .i64 x ∧ Hid (OwnRows wq (ob + 1) (.slice (some ⟨og, 0, none⟩) k oc) rs (mix CA CB x)) ∧ Hid (Fr rs wo wq) ∧ Below ob W2 wq) (fun i _ => k - (intOf i).toNat)
          case atStart => exact ⟨0, Nat.zero_le _, rfl, HWI0.out, HFI0.out, hbq2⟩
          case round =>
            obtain ⟨x, hx, rfl, HOX, HFX, hbx⟩ := hrel
            by_cases hlt : x < k
            · have hbwx : Below w.heap.size w wr := bW2.trans (hbx.mono hs3)
              have i5 := idx_of Try.underlying32 size1_int (c := c3) A3 hlt .i64
              obtain ⟨y, hy, dy⟩ := HC3.out x hlt
              replace dy := below_cell hbwx dy
              have ldy := block_lt_of_cell dy
              have HY := Lib.hid hy
              have c1 := HFX.out.cell k1 (HFR.out ob (.inl (Nat.le_refl _)))
              have lq : ob < wr.heap.size := block_lt_of_cell c1
              have hmx : (mix CA CB x).length = k := by rw [mix_len HAB.out.1 (by rw [HAB.out.2]; exact hx), HAB.out.2]
              have hwx : (CB.getD x []).length = ls.length := HWB.out x hlt
              have hrow := HOX.out.row x (by rw [hmx]; exact hlt)
              rw [mix_at HAB.out.1 (by rw [HAB.out.2]; exact hlt), hwx] at hrow
              obtain ⟨rg, rc, hrv, _⟩ := own_some hrow hn1
              have hol := HOX.out.outer
              rw [hmx] at hol
              have hrs := hol.1
              have d3 : wr.cell? ⟨og, x, none⟩ = some (.slice (some ⟨rg, 0, none⟩) ls.length rc) := by
                rw [hol.cellAt x (by omega), ← hrv]
                simp [List.getD_eq_getElem?_getD, show x < rs.length by rw [HRL.out]; exact hlt]
              have hrow2 := hrow
              rw [hrv] at hrow2
              have d4 := hrow2.cellAt p1 (by omega)
              have f4 := hrow2.frozenAt p1
              have hx1 := hrow2.1
              have hsome : (wr.cell? ⟨rg, p1, none⟩).isSome = true := by rw [d4]; exact Option.isSome_iff_exists.2 ⟨_, List.getElem?_eq_getElem (by omega)⟩
              obtain ⟨u4, hu4⟩ := Option.isSome_iff_exists.1 hsome
              have log := block_lt_of_cell d3
              have lrg := block_lt_of_cell hu4
              have i7 := idx_of Try.underlying22 size1_ints (ao := some ⟨og, 0, none⟩) (b := og) (o := 0) (n := k) (c := oc) (fun _ => rfl) hlt .i64
              have i8 := idx_of Try.underlying32 size1_int (ao := some ⟨rg, 0, none⟩) (b := rg) (o := 0) (n := ls.length) (c := rc) (fun _ => rfl) hpl .i64
              rw [Nat.zero_add] at i7 i8
              have HROW2 := Lib.hid hrow2
              have HRV := Lib.hid hrv
              have HMX := Lib.hid hmx
              have HWX := Lib.hid hwx
              have HRSL : Hid (x < rs.length) := by unfold Hid; rw [HRL.out]; exact hlt
              have lrg2 : ob + 1 ≤ rg := (own_block HROW2.out rfl).1
              clear hsome d4 hrow hrow2 hrv hol hrs hx1 hy hmx hwx
              go_wp2
              have hst := HROW2.out.stored p1 (.int .i64 y)
              have hnw := HOX.out.turned (k := x) (by rw [HMX.out]; exact hlt) (ys := (CB.getD x []).set p1 y) (by rw [List.length_set, mix_at HAB.out.1 (by rw [HAB.out.2]; exact hlt)]) (by rw [HRV.out]; exact hst.2) (by rw [HRV.out, List.length_set, HWX.out, List.map_set]; exact hst.1)
              rw [← HY.out, HSTP.out x hlt, mix_next HAB.out.1 (by rw [HAB.out.2]; exact hlt), HY.out] at hnw
              have hfr6 := HFX.out.grown (j := x) HRSL.out (by rw [HRV.out]; exact hst.2)
              have hb6 := hbx.setCell (p := ⟨rg, p1, none⟩) (by show ob ≤ rg; omega) (.int .i64 y)
              have HNW := Lib.hid hnw
              have HFR6 := Lib.hid hfr6
              have HB6 := Lib.hid hb6
              clear hst hnw hfr6 hb6
              go_roundw
              case rel => exact ⟨x + 1, by omega, by go_num, HNW.out, HFR6.out, HB6.out⟩
              case measure => simp [intOf]; omega
            · obtain rfl : x = k := by omega
              have hox := HOX.out
              rw [← HAB.out.2, mix_all HAB.out.1, HAB.out.2] at hox
              have HOX2 := Lib.hid hox
              clear hox
              go_wp2
              go_roundw
              case rel => exact ⟨p1, by omega, by go_num, by rw [HNX.out]; exact congrArg (Value.int .i64) HWQ.out, by rw [HCA.out]; exact HOX2.out, HFX.out, hbx⟩
              case measure => first | (simp [intOf]; done) | (simp [intOf]; omega)

end Go.Proofs.Ytlgnbbfhejjodaa
