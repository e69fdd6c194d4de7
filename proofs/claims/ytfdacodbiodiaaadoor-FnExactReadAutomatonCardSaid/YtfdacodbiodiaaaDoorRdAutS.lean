/- ReadAutomaton of the reference. -/
import Derived.Test.YtfdacodbiodiaaaDoorRdAut
import Derived.Test.YtfdacodbiodiaaaDoorRdPartS
import Derived.Test.YtfdacodbiodiaaaDoorSpecOk
namespace Go.Proofs.YtfdacodbiodiaaaDoor
set_option linter.unusedVariables false
set_option linter.unusedSimpArgs false
open Go.ChangeShapes Go.WideShapes Go.ChangeAt Go.RowKit

theorem digS_lt : ∀ (l : List UInt8) (n z : Int), 0 ≤ n → digS n l = some z → z < (n + 1) * ((10 ^ l.length : Nat) : Int)
  | [], n, z, h0, h => by
    have : n = z := by simpa [digS] using h
    simp; omega
  | c :: r, n, z, h0, h => by
    unfold digS at h
    split at h
    · cases h
    · rename_i hc
      have hd : c.toNat ≤ 57 := Nat.le_of_not_lt (fun e => hc (Or.inr e))
      have ih := digS_lt r _ z (by omega) h
      rw [List.length_cons, Nat.pow_succ]
      generalize 10 ^ r.length = p at ih ⊢
      have h1 : (n * 10 + ((c.toNat - 48 : Nat) : Int) + 1) * (p : Int) ≤ ((n + 1) * 10) * (p : Int) := Int.mul_le_mul_of_nonneg_right (by omega) (by omega)
      have h2 : ((n + 1) * 10) * (p : Int) = (n + 1) * ((p * 10 : Nat) : Int) := by
        rw [Int.mul_assoc, Int.natCast_mul, Int.mul_comm 10 (p : Int)]; rfl
      omega
theorem numS_lt {l : List UInt8} {z : Int} (h : numS l = some z) : z < 1000000000 := by
  unfold numS at h
  split at h
  · cases h
  · rename_i hn
    have h1 := digS_lt l 0 z (by omega) h
    have h2 : 10 ^ l.length ≤ 10 ^ 9 := Nat.pow_le_pow_right (by omega) (by omega)
    have h3 : (10 : Nat) ^ 9 = 1000000000 := by decide
    omega
theorem allS_lt : ∀ (ws : List (List UInt8)) (zs : List Int), allS numS ws = some zs → ∀ z ∈ zs, z < 1000000000
  | [], zs, h => by
    have : zs = [] := by simpa [allS] using h.symm
    subst this; simp
  | x :: xs, zs, h => by
    rw [allS] at h
    cases e : numS x with
    | none => rw [e] at h; cases h
    | some y =>
      rw [e] at h
      simp only [] at h
      cases e2 : allS numS xs with
      | none => rw [e2] at h; cases h
      | some ys =>
        rw [e2] at h
        simp only [] at h
        injection h with h
        subst h
        intro z hz
        rcases List.mem_cons.1 hz with hz | hz
        · subst hz; exact numS_lt e
        · exact allS_lt xs ys e2 z hz

set_option maxRecDepth 100000 in
set_option maxHeartbeats 8000000 in
theorem specReadAuto_any (s : ByteArray) (w : World) (hs : s.size ≤ 1048576) :
    Calls Tryd.prog 16 #[.string s] w (NewAuto2 (raAns s).1 (raAns s).2.1 (raAns s).2.2 w) := by
  obtain ⟨W2, hW2⟩ : ∃ W2, W2 = w.alloc (.cells #[.int .i64 0, .slice none 0 0] 37) := ⟨_, rfl⟩
  have bx : Below w.heap.size w W2 := by rw [hW2]; exact below_alloc (Below.refl _ _) _
  have p4 : W2.cell? ⟨w.heap.size, 0, none⟩ = some (.int .i64 0) := by rw [hW2]; go_simp
  have p5 : W2.cell? ⟨w.heap.size, 1, none⟩ = some (.slice none 0 0) := by rw [hW2]; go_simp
  have g4 : W2.frozen? ⟨w.heap.size, 0, none⟩ = false := by rw [hW2]; go_simp
  have g5 : W2.frozen? ⟨w.heap.size, 1, none⟩ = false := by rw [hW2]; go_simp
  by_cases hbig : s.size ≤ 2000
  · have hcd0 : ¬ ((2000 : Int) < (s.size : Int)) := by omega
    have HSP := Lib.hid (fun (x : ByteArray) (c : UInt8) W (hx : x.size ≤ 2000) => l01Split_any x c W (by omega))
    have HLS := Lib.hid (fun (ls hd : List ByteArray) (h1 : CutOf 10 s ls) (h2 : CutOf 32 (ls[0]'h1.pos) hd) => autS_of h1 h2)
    have HYES := Lib.hid (fun a xss hp hv => ra_yesS (t := s) hbig (a := a) (xss := xss) hp hv)
    have HNO := Lib.hid (fun hn => ra_noS (t := s) hbig hn)
    generalize raAns s = A at HYES HNO ⊢
    generalize autS s.data.toList = P at HYES HNO HLS
    have HPN : Hid (P = none → A = (0, [], 5)) := fun h => HNO.out (fun a xss hp => by rw [h] at hp; cases hp)
    subst hW2
    go_enter Tryd.func16, Tryd.ntmps16
    go_wp2_with fail
    refine (HSP.out s 10 _ hbig).mono ?_
    rintro e w1 ⟨v1, ls, rfl, ho1, hc1, hb1⟩
    have C1 : CutOf 10 s ls := ⟨hc1⟩
    have hp1 := C1.pos
    have hl1 := C1.len
    obtain ⟨g1, k1, rfl, _⟩ := own_some ho1 hp1
    have HLC : Hid (∀ k (h : k < ls.length), w1.cell? ⟨g1, k, none⟩ = some (.string ls[k])) := fun k h => by rw [ho1.cellAt k (by omega)]; simp [h]
    have c0 := HLC.out 0 hp1
    have hz0 : (ls[0]).size ≤ 2000 := by have := C1.size _ (List.getElem_mem hp1); omega
    have HC1 := Lib.hid C1
    have HLS2 := Lib.hid (fun hd h2 => HLS.out ls hd HC1.out h2)
    have HSZ1 := Lib.hid C1.size
    obtain ⟨x0, hx0⟩ : ∃ x0, x0 = ls[0] := ⟨_, rfl⟩
    rw [← hx0] at c0 hz0
    have HX0 := Lib.hid hx0
    have i0 := idx_at Tryd.underlying46 size1_stringR (ao := some ⟨g1, 0, none⟩) (b := g1) (o := 0) (n := ls.length) (c := k1) (fun _ => rfl) hp1 .i64 0 rfl
    have q4 := below_cell hb1 p4
    have q5 := below_cell hb1 p5
    have f4 := (hb1.frozen (p := ⟨w.heap.size, 0, none⟩) (block_lt_of_cell p4)).trans g4
    have f5 := (hb1.frozen (p := ⟨w.heap.size, 1, none⟩) (block_lt_of_cell p5)).trans g5
    have bw1 := below_trans bx hb1
    have lz1 := block_lt_of_cell q4
    clear ho1 hc1 hx0 p4 p5 g4 g5 hb1
    go_wp2_with fail
    refine (HSP.out x0 32 _ hz0).mono ?_
    rintro e w2 ⟨v2, hd, rfl, ho2, hc2, hb2⟩
    have C2 : CutOf 32 x0 hd := ⟨hc2⟩
    have hp2 := C2.pos
    have hl2 := C2.len
    obtain ⟨g2, k2, rfl, _⟩ := own_some ho2 hp2
    have HLC2 : Hid (∀ k (h : k < hd.length), w2.cell? ⟨g2, 0 + k, none⟩ = some (.string hd[k])) := fun k h => by rw [Nat.zero_add, ho2.cellAt k (by omega)]; simp [h]
    have d0 := HLC2.out 0 hp2
    rw [Nat.zero_add] at d0
    have hR := HLS2.out hd (by rw [← HX0.out]; exact C2)
    have hsz2 : ∀ x ∈ hd, x.size ≤ 1048576 := fun x hx => by have := C2.size x hx; omega
    obtain ⟨y0, hy0⟩ : ∃ y0, y0 = hd[0]'hp2 := ⟨_, rfl⟩
    rw [← hy0] at d0 hR
    have HNB := Lib.hid (l01Numbers_any hd g2 0 k2 1 w2 (by omega) hsz2 hp2 (block_lt_of_cell d0) HLC2.out)
    have j0 := idx_at Tryd.underlying46 size1_stringR (ao := some ⟨g2, 0, none⟩) (b := g2) (o := 0) (n := hd.length) (c := k2) (fun _ => rfl) hp2 .i64 0 rfl
    have HPOS := Lib.hid (allS_pos ((hd.map (·.data.toList)).drop 1))
    have HLT := Lib.hid (allS_lt ((hd.map (·.data.toList)).drop 1))
    generalize allS numS ((hd.map (·.data.toList)).drop 1) = r at HNB hR HPOS HLT
    obtain ⟨xl, hxl⟩ : ∃ xl, xl = (ls[ls.length - 1]'(by omega)) := ⟨_, rfl⟩
    rw [← hxl] at hR
    have HR := Lib.hid hR
    have cl := HLC.out (ls.length - 1) (by omega)
    rw [← hxl] at cl
    have il := idx_at Tryd.underlying46 size1_stringR (ao := some ⟨g1, 0, none⟩) (b := g1) (o := 0) (n := ls.length) (c := k1) (fun _ => rfl) (show ls.length - 1 < ls.length by omega) .i64 ((ls.length : Int) - 1) (by omega)
    rw [Nat.zero_add] at il
    clear ho2 hc2 C2 hR hsz2 hy0 HLS HLS2 hxl
    go_wp2_with fail
    refine HNB.out.mono ?_
    rintro e w3 ⟨v3, zs, rfl, ho3, hz3, hb3⟩
    have hb13 := hb2.trans (hb3.mono hb2.size)
    replace d0 := below_cell hb3 d0
    replace c0 := below_cell hb13 c0
    replace cl := below_cell hb13 cl
    replace q4 := below_cell hb13 q4
    replace q5 := below_cell hb13 q5
    replace f4 := (hb13.frozen (p := ⟨w.heap.size, 0, none⟩) lz1).trans f4
    replace f5 := (hb13.frozen (p := ⟨w.heap.size, 1, none⟩) lz1).trans f5
    have hbb := below_trans bw1 hb13
    have hz := block_lt_of_cell q4
    obtain ⟨a3, m3, c3, rfl, HM3⟩ := own_shape ho3
    obtain rfl : m3 = zs.length := HM3.out
    cases r with
    | none =>
      have HA := Lib.hid (HPN.out HR.out)
      clear ho3 hz3
      go_wp2
      rw [HA.out]
      exact bodyPost_ret (v := .tuple #[.agg #[.int .i64 0, .slice none 0 0], .int .i64 5]) (by simp [results, Tryd.results16, go_sem, q4, q5, hz]) rfl ⟨_, [], rfl, ownRows_nil _ _, by repeat (first | exact hbb | refine below_set ?_ (by omega) _ _)⟩
    | some ys =>
      obtain rfl := hz3 ys rfl
      by_cases hnm : y0 = autG
      · have hy1 : (y0.toList == [97, 117, 116, 111, 109, 97, 116, 111, 110]) = true := by rw [hnm]; decide +kernel
        have HNM := Lib.hid hnm
        clear hnm
        by_cases hl : zs.length = 2
        · obtain ⟨a, b, rfl⟩ : ∃ a b, zs = [a, b] := by
            rcases zs with _ | ⟨a, _ | ⟨b, _ | ⟨c, cs⟩⟩⟩
            · simp at hl
            · simp at hl
            · exact ⟨a, b, rfl⟩
            · simp at hl
          have hb0 : 0 ≤ b := HPOS.out _ rfl b (by simp)
          have hb9 : b < 1000000000 := HLT.out _ rfl b (by simp)
          have HRR : Hid (P = if y0 = autG ∧ xl = ⟨#[]⟩ ∧ (ls.length : Int) = b + 2 then (match allS rowA (midB ls) with
            | none => none
            | some xss => some (a, xss)) else none) := HR.out
          clear HR
          obtain ⟨g3, k3, hv3, _⟩ := own_some ho3 (by simp)
          injection hv3 with hv3 hv4 hv5
          subst hv3
          have z0 : w3.cell? ⟨g3, 0, none⟩ = some (.int .i64 a) := by rw [ho3.cellAt 0 (by simp)]; simp
          have z1 : w3.cell? ⟨g3, 1, none⟩ = some (.int .i64 b) := by rw [ho3.cellAt 1 (by simp)]; simp
          clear ho3 hz3 hl hv4 hv5 HPOS HLT
          by_cases hle : xl = ⟨#[]⟩
          · by_cases hbl : (ls.length : Int) = b + 2
            · have hbe : ((ls.length : Int) != b + 2) = false := by simp [hbl]
              have hR : P = (match allS rowA (midB ls) with
                | none => none
                | some xss => some (a, xss)) := by rw [HRR.out, if_pos ⟨HNM.out, hle, hbl⟩]
              have HR2 := Lib.hid hR
              have hlen2 : 2 ≤ ls.length := by omega
              have HO0 : Hid (OutAt (w3.alloc (.cells #[.int .i64 a, .slice none 0 0] 37)) w3.heap.size (w3.heap.size + 1) a []) := ⟨_, [], by go_simp, by go_simp, by go_simp, ownRows_nil _ _⟩
              have hB0 : Below w3.heap.size w3 (w3.alloc (.cells #[.int .i64 a, .slice none 0 0] 37)) := below_alloc (Below.refl _ _) _
              have HB13 := Lib.hid hb13
              have HHBB := Lib.hid hbb
              clear hR hbl HRR
              go_wp2
              go_loopw [9, 10, 11, 12] (fun i z10 z11 z12 wr => ∃ (k : Nat) (zss : List (List Int)), 1 ≤ k ∧ k + 1 ≤ ls.length ∧ i = .int .i64 k ∧ zss.length + 1 = k ∧ Hid (OutAt wr w3.heap.size (w3.heap.size + 1) a zss) ∧ Hid (allS rowA ((midB ls).take (k - 1)) = some zss) ∧ Below w3.heap.size w3 wr) (fun i _ _ _ _ => ls.length - (intOf i).toNat)
              case atStart => exact ⟨1, [], Nat.le_refl _, hlen2, rfl, rfl, HO0.out, rfl, hB0⟩
              case round =>
                obtain ⟨k, zss, hk1, hk2, rfl, hzl, HO, HT, hb⟩ := hrel
                have r4 := below_cell hb q4
                have r5 := below_cell hb q5
                have hf4 := (hb.frozen (p := ⟨w.heap.size, 0, none⟩) hz).trans f4
                have hf5 := (hb.frozen (p := ⟨w.heap.size, 1, none⟩) hz).trans f5
                have hzr : w.heap.size < wr.heap.size := block_lt_of_cell r4
                by_cases hlt : k + 1 < ls.length
                · have ck := HLC.out k (by omega)
                  have i1 := idx_of Tryd.underlying46 size1_stringR (ao := some ⟨g1, 0, none⟩) (b := g1) (o := 0) (n := ls.length) (c := k1) (fun _ => rfl) (show k < ls.length by omega) .i64
                  rw [Nat.zero_add] at i1
                  have hzk : (ls[k]).size ≤ 2000 := by have := HSZ1.out _ (List.getElem_mem (show k < ls.length by omega)); omega
                  have HST := Lib.hid (midB_step hk1 hlt)
                  obtain ⟨xk, hxk⟩ : ∃ xk, xk = ls[k]'(by omega) := ⟨_, rfl⟩
                  rw [← hxk] at ck hzk HST
                  have HMEM : Hid (xk.data.toList ∈ midB ls) := by
                    have : xk.data.toList ∈ (midB ls).take k := by rw [HST.out]; simp
                    exact List.mem_of_mem_take this
                  have ck2 := below_cell (below_trans HB13.out hb) ck
                  obtain ⟨wo, rfl⟩ : ∃ wo : World, wo = wr := ⟨_, rfl⟩
                  clear hxk ck
                  go_wp2_with fail
                  refine (HSP.out xk 32 _ hzk).mono ?_
                  rintro e w4 ⟨v4, ws, rfl, ho4, hc4, hb4⟩
                  have C4 : CutOf 32 xk ws := ⟨hc4⟩
                  have hp4 := C4.pos
                  have hl4 := C4.len
                  obtain ⟨g4, k4, rfl, _⟩ := own_some ho4 hp4
                  have HLC4 : Hid (∀ k (h : k < ws.length), w4.cell? ⟨g4, 0 + k, none⟩ = some (.string ws[k])) := fun k h => by rw [Nat.zero_add, ho4.cellAt k (by omega)]; simp [h]
                  have f0 := HLC4.out 0 hp4
                  rw [Nat.zero_add] at f0
                  have hhd := C4.head
                  have hsz4 : ∀ x ∈ ws, x.size ≤ 1048576 := fun x hx => by have := C4.size x hx; omega
                  obtain ⟨q0, hq0⟩ : ∃ q0, q0 = ws[0]'hp4 := ⟨_, rfl⟩
                  rw [← hq0] at f0 hhd
                  have HNB4 := Lib.hid (l01Numbers_any ws g4 0 k4 1 w4 (by omega) hsz4 hp4 (block_lt_of_cell f0) HLC4.out)
                  have l0 := idx_at Tryd.underlying46 size1_stringR (ao := some ⟨g4, 0, none⟩) (b := g4) (o := 0) (n := ws.length) (c := k4) (fun _ => rfl) hp4 .i64 0 rfl
                  have hrow : rowA xk.data.toList = if q0 = letG then allS numS ((ws.map (·.data.toList)).drop 1) else none := by
                    unfold rowA
                    rw [hhd, ← C4.eq]
                    simp only [bytes_eq_iff]
                  generalize allS numS ((ws.map (·.data.toList)).drop 1) = rr4 at HNB4 hrow
                  have HROW := Lib.hid hrow
                  clear ho4 hc4 C4 hq0 hhd hsz4 hrow
                  go_wp2_with fail
                  refine HNB4.out.mono ?_
                  rintro e w5 ⟨v5, zs, rfl, ho5, hz5, hb5⟩
                  have hb45 := hb4.trans (hb5.mono hb4.size)
                  replace f0 := below_cell hb5 f0
                  have s4 := below_cell hb45 r4
                  have s5 := below_cell hb45 r5
                  have u4 := (hb45.frozen (p := ⟨w.heap.size, 0, none⟩) hzr).trans hf4
                  have u5 := (hb45.frozen (p := ⟨w.heap.size, 1, none⟩) hzr).trans hf5
                  have hz5' := block_lt_of_cell s4
                  have hbw5 := below_trans hb hb45
                  have hbb5 := below_trans HHBB.out hbw5
                  obtain ⟨a5, m5, c5, rfl, HM5⟩ := own_shape ho5
                  have hfailN : rowA xk.data.toList = none → A = (0, [], 5) := fun h => HPN.out (by
                    rw [HR2.out, allS_mem_none _ _ HMEM.out h])
                  have HFN := Lib.hid hfailN
                  clear hfailN
                  cases rr4 with
                  | none =>
                    have HA := Lib.hid (HFN.out (by rw [HROW.out]; split <;> rfl))
                    clear ho5 hz5
                    go_wp2
                    rw [HA.out]
                    exact bodyPost_ret (v := .tuple #[.agg #[.int .i64 0, .slice none 0 0], .int .i64 5]) (by simp [results, Tryd.results16, go_sem, s4, s5, hz5']) rfl ⟨_, [], rfl, ownRows_nil _ _, by repeat (first | exact hbb5 | refine below_set ?_ (by omega) _ _)⟩
                  | some ys =>
                    obtain rfl := hz5 ys rfl
                    by_cases hqe : q0 = letG
                    · have HSN : Hid (allS rowA ((midB ls).take k) = some (zss ++ [zs])) := by
                        unfold Hid
                        rw [HST.out]
                        exact allS_snoc _ _ _ _ HT.out (by rw [HROW.out, if_pos hqe])
                      obtain ⟨v0, rs, k0, k1', gg1, ho⟩ := HO.out
                      obtain ⟨av, mv, cv, rfl, HMv⟩ := own_shape ho.outer
                      have hlob : w3.heap.size < wo.heap.size := block_lt_of_cell k1'
                      have kr0 := below_cell hb45 k0
                      have kr1 := below_cell hb45 k1'
                      have gr1 := (hb45.frozen (p := ⟨w3.heap.size, 1, none⟩) hlob).trans gg1
                      have hor := ho.below hb45
                      have lobr : w3.heap.size < w5.heap.size := block_lt_of_cell kr1
                      have HOW := Lib.hid hor
                      have HAP := Lib.hid ((ho.below hb4).apart_new ho5)
                      have hou := hor.outer
                      have HOU := Lib.hid hou
                      have hbws := hbw5.size
                      have hw4s := hb4.size
                      have HR5 := Lib.hid ho5
                      have hqe2 : (q0.toList == [108, 101, 116, 116, 101, 114]) = true := by rw [hqe]; decide +kernel
                      clear hou hor ho HMv HO ho5 hz5 hqe
                      go_wp2_with (at_builtin; refine wpList_push elem_ints rfl (.tmp 91) (.tmp 93) rfl (w3.heap.size + 1) rfl HOU.out _ rfl rfl (by unfold maxLen; omega) (by omega) (by omega) ?_; intro v6 w6 ho6 hg6 hs6; obtain ⟨a6, m6, c6, rfl, HM6⟩ := own_shape ho6; have rc0 := grown_cell hg6 HOU.out (by omega) kr0; have rc1 := grown_cell hg6 HOU.out (by omega) kr1; have rc2 := grown_frozen hg6 HOU.out (by omega) kr1 gr1; have lob6 : w3.heap.size < w6.heap.size := block_lt_of_cell rc1)
                      have hout := OutAt.pushed HOW.out kr0 kr1 gr1 (by omega) hg6 ho6 HR5.out (by omega) HAP.out
                      have hb7 : Below w3.heap.size w3 w6 := Below.grown hbw5 hg6 hbw5.size (fun g hg => by have := (own_block HOU.out hg).1; omega)
                      have HOUT := Lib.hid hout
                      have HB7 := Lib.hid (hb7.setCell (p := ⟨w3.heap.size, 1, none⟩) (Nat.le_refl _) (.slice a6 m6 c6))
                      clear hout ho6 hg6 hs6 hb7
                      go_wp2
                      go_roundw
                      case rel => exact ⟨k + 1, zss ++ [zs], by omega, by omega, by go_num, by simp; omega, HOUT.out, by rw [Nat.add_sub_cancel]; exact HSN.out, HB7.out⟩
                      case measure => simp [intOf]; omega
                    · have HA := Lib.hid (HFN.out (by rw [HROW.out, if_neg hqe]))
                      have hse : (q0.toList == [108, 101, 116, 116, 101, 114]) = false := by rw [ByteArray.toList_eq]; exact beq_eq_false_iff_ne.2 (fun h => hqe (bytes_eq h))
                      clear ho5 hz5 hqe
                      go_wp2
                      rw [HA.out]
                      exact bodyPost_ret (v := .tuple #[.agg #[.int .i64 0, .slice none 0 0], .int .i64 5]) (by simp [results, Tryd.results16, go_sem, s4, s5, hz5']) rfl ⟨_, [], rfl, ownRows_nil _ _, by repeat (first | exact hbb5 | refine below_set ?_ (by omega) _ _)⟩
                · have hfull : P = some (a, zss) := by
                    have hl := midB_len ls
                    have h1 := HT.out
                    rw [List.take_of_length_le (by omega)] at h1
                    rw [HR2.out, h1]
                  obtain ⟨v0, rs, k0, k1', gg1, ho⟩ := HO.out
                  obtain ⟨av, mv, cv, rfl, HMv⟩ := own_shape ho.outer
                  have C9 := Lib.hid (l01Ok_any w3.heap.size 0 a _ zss wr k0 k1' ho.reads)
                  have HOW := Lib.hid ho
                  have lob : w3.heap.size < wr.heap.size := block_lt_of_cell k1'
                  have hbb9 := below_trans HHBB.out hb
                  have HYN := Lib.hid (fun hv => HYES.out a zss hfull hv)
                  have HNN : Hid (¬ validB a zss = true → A = (0, [], 5)) := fun hv => HNO.out (fun a' xss h hh => by rw [hfull] at h; injection h with h; injection h with h1 h2; subst h1; subst h2; exact hv hh)
                  generalize validB a zss = bv at C9 HYN HNN
                  clear hfull HO HMv ho
                  cases bv with
                  | false =>
                    have HA := Lib.hid (HNN.out (by simp))
                    go_wp2_with fail
                    refine C9.out.mono ?_
                    rintro e w8 ⟨rfl, hq⟩
                    have hq2 := hq.below wr.heap.size
                    have s4 := below_cell hq2 r4
                    have s5 := below_cell hq2 r5
                    have u4 := (hq2.frozen (p := ⟨w.heap.size, 0, none⟩) hzr).trans hf4
                    have u5 := (hq2.frozen (p := ⟨w.heap.size, 1, none⟩) hzr).trans hf5
                    have hz8 : w.heap.size < w8.heap.size := block_lt_of_cell s4
                    have hbb8 := below_trans hbb9 hq2
                    go_wp2
                    rw [HA.out]
                    exact bodyPost_ret (v := .tuple #[.agg #[.int .i64 0, .slice none 0 0], .int .i64 5]) (by simp [results, Tryd.results16, go_sem, s4, s5, hz8]) rfl ⟨_, [], rfl, ownRows_nil _ _, by repeat (first | exact hbb8 | refine below_set ?_ (by omega) _ _)⟩
                  | true =>
                    have HA := Lib.hid (HYN.out rfl)
                    go_wp2_with fail
                    refine C9.out.mono ?_
                    rintro e w8 ⟨rfl, hq⟩
                    have hq2 := hq.below wr.heap.size
                    have m0 := below_cell hq2 k0
                    have m1 := below_cell hq2 k1'
                    have s4 := below_cell hq2 r4
                    have s5 := below_cell hq2 r5
                    have u4 := (hq2.frozen (p := ⟨w.heap.size, 0, none⟩) hzr).trans hf4
                    have u5 := (hq2.frozen (p := ⟨w.heap.size, 1, none⟩) hzr).trans hf5
                    have hz8 : w.heap.size < w8.heap.size := block_lt_of_cell s4
                    have lob8 : w3.heap.size < w8.heap.size := block_lt_of_cell m0
                    have hbb8 := below_trans hbb9 hq2
                    have HO8 := Lib.hid (HOW.out.below hq2)
                    have hlo : w.heap.size ≤ w3.heap.size + 1 := by omega
                    go_wp2
                    rw [HA.out]
                    refine bodyPost_ret (v := .tuple #[.agg #[.int .i64 a, .slice av mv cv], .int .i64 0]) (by simp [results, Tryd.results16, go_sem, s4, s5, hz8]) rfl ⟨_, rs, rfl, ?_, by repeat (first | exact hbb8 | refine below_set ?_ (by omega) _ _)⟩
                    refine OwnRows.mono (lo := w3.heap.size + 1) ?_ hlo
                    repeat (first | exact HO8.out | refine OwnRows.set_below ?_ (by first | omega | simp) _ _)
            · have hbe : ((ls.length : Int) != b + 2) = true := by simp [hbl]
              have HA := Lib.hid (HPN.out (by rw [HRR.out, if_neg]; rintro ⟨_, _, h⟩; exact hbl h))
              clear hbl
              go_wp2
              rw [HA.out]
              exact bodyPost_ret (v := .tuple #[.agg #[.int .i64 0, .slice none 0 0], .int .i64 5]) (by simp [results, Tryd.results16, go_sem, q4, q5, hz]) rfl ⟨_, [], rfl, ownRows_nil _ _, by repeat (first | exact hbb | refine below_set ?_ (by omega) _ _)⟩
          · have hse : (xl.toList == []) = false := by rw [ByteArray.toList_eq]; exact beq_eq_false_iff_ne.2 (fun h => hle (bytes_eq h))
            have HA := Lib.hid (HPN.out (by rw [HRR.out, if_neg]; rintro ⟨_, h, _⟩; exact hle h))
            clear hle
            go_wp2
            rw [HA.out]
            exact bodyPost_ret (v := .tuple #[.agg #[.int .i64 0, .slice none 0 0], .int .i64 5]) (by simp [results, Tryd.results16, go_sem, q4, q5, hz]) rfl ⟨_, [], rfl, ownRows_nil _ _, by repeat (first | exact hbb | refine below_set ?_ (by omega) _ _)⟩
        · have hne : ((zs.length : Int) != 2) = true := by simp; omega
          have HA := Lib.hid (HPN.out (by
            have := HR.out
            rcases zs with _ | ⟨a, _ | ⟨b, _ | ⟨c, cs⟩⟩⟩
            · exact this
            · exact this
            · simp at hl
            · exact this))
          clear ho3 hz3 hl
          go_wp2
          rw [HA.out]
          exact bodyPost_ret (v := .tuple #[.agg #[.int .i64 0, .slice none 0 0], .int .i64 5]) (by simp [results, Tryd.results16, go_sem, q4, q5, hz]) rfl ⟨_, [], rfl, ownRows_nil _ _, by repeat (first | exact hbb | refine below_set ?_ (by omega) _ _)⟩
      · have hse : (y0.toList == [97, 117, 116, 111, 109, 97, 116, 111, 110]) = false := by rw [ByteArray.toList_eq]; exact beq_eq_false_iff_ne.2 (fun h => hnm (bytes_eq h))
        have HA := Lib.hid (HPN.out (by
          have := HR.out
          rcases zs with _ | ⟨a, _ | ⟨b, _ | ⟨c, cs⟩⟩⟩
          · exact this
          · exact this
          · simp only [] at this
            rw [this, if_neg]
            rintro ⟨h, _⟩
            exact hnm h
          · exact this))
        clear ho3 hz3 hnm
        go_wp2
        rw [HA.out]
        exact bodyPost_ret (v := .tuple #[.agg #[.int .i64 0, .slice none 0 0], .int .i64 5]) (by simp [results, Tryd.results16, go_sem, q4, q5, hz]) rfl ⟨_, [], rfl, ownRows_nil _ _, by repeat (first | exact hbb | refine below_set ?_ (by omega) _ _)⟩
  · have hA := ra_big hbig
    generalize raAns s = A at hA ⊢
    have HA := Lib.hid hA
    have hcd0 : (2000 : Int) < (s.size : Int) := by omega
    have hz : w.heap.size < W2.heap.size := block_lt_of_cell p4
    subst hW2
    clear hA
    go_enter Tryd.func16, Tryd.ntmps16
    go_wp2
    rw [HA.out]
    exact bodyPost_ret (v := .tuple #[.agg #[.int .i64 0, .slice none 0 0], .int .i64 2]) (by simp [results, Tryd.results16, go_sem, p4, p5, hz]) rfl ⟨_, [], rfl, ownRows_nil _ _, by repeat (first | exact bx | refine below_set ?_ (by omega) _ _)⟩
end Go.Proofs.YtfdacodbiodiaaaDoor
