/- ReadPartial of the reference. -/
import Derived.Test.YtfdacodbiodiaaaDoorRdPart
import Derived.Test.YtfdacodbiodiaaaDoorLinesS
import Derived.Test.YtfdacodbiodiaaaDoorPush
namespace Go.Proofs.YtfdacodbiodiaaaDoor
set_option linter.unusedVariables false
set_option linter.unusedSimpArgs false
open Go.ChangeShapes Go.WideShapes Go.ChangeAt Go.RowKit

def rowS (w : List (List UInt8)) : Option (List Int) := allS celS (w.drop 1)
theorem partS_lines (t : List UInt8) : partS t = match linesS parG.data.toList t with
  | none => none
  | some (a, ws) => match allS rowS ws with
    | none => none
    | some xss => some (a, xss) := rfl
def tl (bs : List ByteArray) : List (List UInt8) := bs.map (fun (b : ByteArray) => b.data.toList)
def tls (bss : List (List ByteArray)) : List (List (List UInt8)) := bss.map tl
theorem tls_take {bss : List (List ByteArray)} {k : Nat} (h : k < bss.length) : (tls bss).take (k + 1) = (tls bss).take k ++ [tl bss[k]] := by
  unfold tls
  rw [List.take_succ_eq_append_getElem (by simpa using h), List.getElem_map]
theorem tls_mem {bss : List (List ByteArray)} {k : Nat} (h : k < bss.length) : tl bss[k] ∈ tls bss := List.mem_map_of_mem (List.getElem_mem h)
theorem tl_drop {bs : List ByteArray} {j : Nat} (h1 : 1 ≤ j) (h : j < bs.length) : ((tl bs).drop 1).take j = ((tl bs).drop 1).take (j - 1) ++ [(bs[j]).data.toList] := by
  have e2 : ((tl bs).drop 1)[j - 1]? = some (bs[j]).data.toList := by
    unfold tl
    rw [List.getElem?_drop, show 1 + (j - 1) = j by omega, List.getElem?_map, List.getElem?_eq_getElem h]; rfl
  have e := List.take_add_one (l := (tl bs).drop 1) (i := j - 1)
  rw [show j - 1 + 1 = j by omega, e2] at e
  exact e
theorem tl_len (bs : List ByteArray) : (tl bs).length = bs.length := by simp [tl]
theorem tl_mem {bs : List ByteArray} {j : Nat} (h1 : 1 ≤ j) (h : j < bs.length) : (bs[j]).data.toList ∈ (tl bs).drop 1 := by
  have e := tl_drop h1 h
  have : (bs[j]).data.toList ∈ ((tl bs).drop 1).take j := by rw [e]; simp
  exact List.mem_of_mem_take this
/-- what the reference's lines are worth -/
theorem lines_small {name t : List UInt8} {a : Int} {ws : List (List (List UInt8))} (h : linesS name t = some (a, ws)) : ws.length ≤ t.length + 1 ∧ ∀ r ∈ ws, r.length ≤ t.length + 1 ∧ ∀ p ∈ r, p.length ≤ t.length := by
  unfold linesS at h
  split at h
  · split at h
    · injection h with h
      injection h with h1 h2
      subst h2
      refine ⟨?_, fun r hr => ?_⟩
      · rw [List.length_map, List.length_dropLast, List.length_drop]
        have := cutL_count 10 t
        omega
      · obtain ⟨l, hl, rfl⟩ := List.mem_map.1 hr
        have hl2 := cutL_size 10 t l (List.mem_of_mem_drop (List.mem_of_mem_take (by rw [← List.dropLast_eq_take]; exact hl)))
        refine ⟨?_, fun p hp => ?_⟩
        · have := cutL_count 32 l
          omega
        · have := cutL_size 32 l p hp
          omega
    · cases h
  · cases h

theorem size1_strsR : ∀ w, (sizeOf 46).run Tryd.prog w = .ok 1 w := fun _ => by kernel_rfl

set_option maxRecDepth 100000 in
set_option maxHeartbeats 8000000 in
theorem specReadPart_any (s : ByteArray) (w : World) (hs : s.size ≤ 1048576) :
    Calls Tryd.prog 6 #[.string s] w (NewAuto2 (rpAns s).1 (rpAns s).2.1 (rpAns s).2.2 w) := by
  obtain ⟨W2, hW2⟩ : ∃ W2, W2 = w.alloc (.cells #[.int .i64 0, .slice none 0 0] 24) := ⟨_, rfl⟩
  have bx : Below w.heap.size w W2 := by rw [hW2]; exact below_alloc (Below.refl _ _) _
  have p4 : W2.cell? ⟨w.heap.size, 0, none⟩ = some (.int .i64 0) := by rw [hW2]; go_simp
  have p5 : W2.cell? ⟨w.heap.size, 1, none⟩ = some (.slice none 0 0) := by rw [hW2]; go_simp
  have g4 : W2.frozen? ⟨w.heap.size, 0, none⟩ = false := by rw [hW2]; go_simp
  have g5 : W2.frozen? ⟨w.heap.size, 1, none⟩ = false := by rw [hW2]; go_simp
  by_cases hbig : s.size ≤ 2000
  · have hcd0 : ¬ ((2000 : Int) < (s.size : Int)) := by omega
    have HLN := Lib.hid (l04Lines_any s parG W2 hbig (by decide))
    have HYES := Lib.hid (fun a xss hv ht => rp_yesS (t := s) hbig (a := a) (xss := xss) hv ht)
    have HNO := Lib.hid (fun hn => rp_noS (t := s) hbig hn)
    have HPS := Lib.hid (partS_lines s.data.toList)
    have HSM := Lib.hid (fun a ws h => lines_small (name := parG.data.toList) (t := s.data.toList) (a := a) (ws := ws) h)
    rw [size_listG] at HSM
    generalize rpAns s = A at HYES HNO ⊢
    generalize partS s.data.toList = P at HNO HPS
    generalize linesS parG.data.toList s.data.toList = r at HLN HPS HSM
    subst hW2
    go_enter Tryd.func6, Tryd.ntmps6
    go_wp2_with fail
    refine HLN.out.mono ?_
    rintro e w1 ⟨v, bss, st, rfl, hsr, hrp, hb1⟩
    obtain ⟨ao, ab, o, c, T⟩ := hsr.open
    have hv0 := T.val
    subst hv0
    have AD := T.adr
    have HROWS := Lib.hid hsr
    obtain ⟨okv, hok⟩ : ∃ okv, okv = r.isSome := ⟨_, rfl⟩
    rw [← hok]
    have HPT : Hid (okv = true → P = match allS rowS (tls bss) with | none => none | some xss => some (st, xss)) := fun h => by
      rw [hok] at h
      obtain ⟨p, hp⟩ := Option.isSome_iff_exists.1 h
      have h2 := hrp p hp
      rw [HPS.out, hp, h2]; rfl
    have HPF : Hid (okv = false → P = none) := fun h => by
      rw [hok] at h
      have : r = none := by simpa using h
      rw [HPS.out, this]
    have HLEN : Hid (okv = true → bss.length ≤ 2001 ∧ ∀ b ∈ bss, b.length ≤ 2001 ∧ ∀ x ∈ b, x.size ≤ 2000) := fun h => by
      rw [hok] at h
      obtain ⟨p, hp⟩ := Option.isSome_iff_exists.1 h
      have h2 := hrp p hp
      rw [h2] at hp
      obtain ⟨q1, q2⟩ := HSM.out _ _ hp
      refine ⟨by rw [List.length_map] at q1; omega, fun b hb => ?_⟩
      obtain ⟨q3, q4⟩ := q2 _ (List.mem_map_of_mem hb)
      refine ⟨by rw [List.length_map] at q3; omega, fun x hx => ?_⟩
      have := q4 _ (List.mem_map_of_mem hx)
      rw [size_listG] at this
      omega
    have q4 := below_cell hb1 p4
    have q5 := below_cell hb1 p5
    have f4 := (hb1.frozen (p := ⟨w.heap.size, 0, none⟩) (block_lt_of_cell p4)).trans g4
    have f5 := (hb1.frozen (p := ⟨w.heap.size, 1, none⟩) (block_lt_of_cell p5)).trans g5
    have bw1 := below_trans bx hb1
    have HO0 : Hid (OutAt (w1.alloc (.cells #[.int .i64 st, .slice none 0 0] 24)) w1.heap.size (w1.heap.size + 1) st []) := ⟨_, [], by go_simp, by go_simp, by go_simp, ownRows_nil _ _⟩
    have hB0 : Below w1.heap.size w1 (w1.alloc (.cells #[.int .i64 st, .slice none 0 0] 24)) := below_alloc (Below.refl _ _) _
    have hz0 : w.heap.size < w1.heap.size := block_lt_of_cell q4
    have hc63 := T.len
    clear hrp hok hsr hb1 p4 p5 g4 g5 HSM HPS T
    go_wp2
    go_loopw [6, 8, 9, 10, 11] (fun okk i r1 ii n1 wr => ∃ (k : Nat) (zss : List (List Int)), k ≤ bss.length ∧ i = .int .i64 k ∧ zss.length = k ∧ Hid (OutAt wr w1.heap.size (w1.heap.size + 1) st zss) ∧ Hid (∃ b : Bool, okk = .bool b ∧ (b = true → okv = true ∧ allS rowS ((tls bss).take k) = some zss) ∧ (b = false → P = none)) ∧ Below w1.heap.size w1 wr) (fun _ i _ _ _ _ => bss.length - (intOf i).toNat)
    case atStart => exact ⟨0, [], Nat.zero_le _, rfl, rfl, HO0.out, ⟨okv, rfl, (fun h => ⟨h, rfl⟩), HPF.out⟩, hB0⟩
    case round =>
      obtain ⟨k, zss, hk, rfl, hzl, HO, HBB, hb⟩ := hrel
      obtain ⟨b, rfl, hT0, hF0⟩ := HBB.out
      have HT := Lib.hid hT0
      have HF := Lib.hid hF0
      clear hT0 hF0 HBB
      have r4 := below_cell hb q4
      have r5 := below_cell hb q5
      have hf4 := (hb.frozen (p := ⟨w.heap.size, 0, none⟩) hz0).trans f4
      have hf5 := (hb.frozen (p := ⟨w.heap.size, 1, none⟩) hz0).trans f5
      have hzr : w.heap.size < wr.heap.size := block_lt_of_cell r4
      cases b with
      | false =>
        have hA : A = (0, [], 5) := HNO.out (fun a xss h => by rw [HF.out rfl] at h; cases h)
        obtain ⟨v0, rs, k0, k1, g1, ho⟩ := HO.out
        have hbb := below_trans bw1 hb
        have HA := Lib.hid hA
        clear hA ho
        by_cases hlt : k < bss.length
        all_goals
          go_wp2
          rw [HA.out]
          exact bodyPost_ret (v := .tuple #[.agg #[.int .i64 0, .slice none 0 0], .int .i64 5]) (by simp [results, Tryd.results6, go_sem, r4, r5, hzr]) rfl ⟨_, [], rfl, ownRows_nil _ _, by repeat (first | exact hbb | refine below_set ?_ (by omega) _ _)⟩
      | true =>
        by_cases hlt : k < bss.length
        · obtain ⟨hokt, hpre⟩ := HT.out rfl
          obtain ⟨ml, hml⟩ := HLEN.out hokt
          have i1 := idx_of Tryd.underlying42 size1_strsR (c := c) AD hlt .i64
          obtain ⟨ao', ab', o', c', T⟩ := (HROWS.out.below hb).open
          have hvt := T.val
          injection hvt with hvt1 hvt2 hvt3
          obtain ⟨r1, d1, hr1⟩ := T.cell k hlt
          have had := T.adr (by omega)
          rw [← hvt1, AD (by omega)] at had
          injection had with had
          injection had with e1 e2
          rw [← e1, ← e2] at d1
          obtain ⟨aor, abr, orr, cr, V⟩ := Strs.open hr1
          have hvv := V.val
          subst hvv
          have HSTP := Lib.hid (tls_take hlt)
          have HMEM := Lib.hid (tls_mem hlt)
          obtain ⟨hrl, hrx⟩ := hml _ (List.getElem_mem hlt)
          obtain ⟨rw', hrw⟩ : ∃ rw', rw' = bss[k] := ⟨_, rfl⟩
          rw [← hrw] at d1 hr1 V HSTP HMEM hrl hrx
          have AR := V.adr
          have HX := Lib.hid hrx
          have HV := Lib.hid (fun j (hj : j < rw'.length) => V.cell j hj)
          have HPRE := Lib.hid hpre
          obtain ⟨wo, rfl⟩ : ∃ wo : World, wo = wr := ⟨_, rfl⟩
          have HE2 := Lib.hid (own_empty wo wo.heap.size (Nat.le_refl _) 2)
          have hbe2 : Below wo.heap.size wo (wo.alloc (.cells #[] 2)) := below_alloc (Below.refl _ _) _
          have hlow := hb.size
          clear hrw hrx hvt1 hvt2 hvt3 e1 e2 T V hr1 hpre hml
          go_wp2
          go_loopw [6, 9, 10, 11] (fun okk u i n1 wr => ∃ (j : Nat) (ys : List Int), i = .int .i64 j ∧ 1 ≤ j ∧ (j ≤ rw'.length ∨ j = 1) ∧ ys.length + 1 = j ∧ Hid (wr.ownsRow wo.heap.size 2 1 u ys.length (ys.map (Value.int .i64))) ∧ Hid (∃ b2 : Bool, okk = .bool b2 ∧ (b2 = true → allS celS (((tl rw').drop 1).take (j - 1)) = some ys) ∧ (b2 = false → rowS (tl rw') = none)) ∧ Below wo.heap.size wo wr) (fun _ _ i _ _ => 4096 - (intOf i).toNat)
          case atStart => exact ⟨1, [], rfl, Nat.le_refl _, .inr rfl, rfl, HE2.out, ⟨true, rfl, (fun _ => rfl), (by intro h; cases h)⟩, hbe2⟩
          case round =>
            obtain ⟨j, ys, rfl, hj1, hj2, hyl, HR, HBB, hb2⟩ := hrel
            obtain ⟨b2, rfl, hT0, hF0⟩ := HBB.out
            have HT2 := Lib.hid hT0
            have HF2 := Lib.hid hF0
            clear hT0 hF0 HBB
            have t1 := below_cell hb2 d1
            have lt1 := block_lt_of_cell t1
            by_cases hgo : j < rw'.length ∧ b2 = true
            · obtain ⟨hj, rfl⟩ := hgo
              have i2 := idx_of Tryd.underlying46 size1_stringR (c := cr) AR hj .i64
              have t2 := below_cell hb2 (HV.out j hj)
              have HD := Lib.hid (tl_drop hj1 hj)
              have HM2 := Lib.hid (tl_mem hj1 hj)
              have hxs := HX.out _ (List.getElem_mem hj)
              obtain ⟨x, hx⟩ : ∃ x, x = rw'[j] := ⟨_, rfl⟩
              rw [← hx] at t2 HD HM2 hxs
              have HP2 := Lib.hid (HT2.out rfl)
              have HNU := Lib.hid (fun W => l01Number_any x W (by omega))
              clear hx
              by_cases hdot : x.data.toList = [46]
              · have hse : (x.toList == [46]) = true := by rw [ByteArray.toList_eq, hdot]; rfl
                have hc1 : celS x.data.toList = some (-1) := by unfold celS; rw [if_pos hdot]
                have HSN := Lib.hid (allS_snoc _ _ _ _ HP2.out hc1)
                clear hdot hc1
                go_wp2_with (at_builtin; refine wpList_push elem_intR rfl (.tmp 65) (.tmp 67) rfl wo.heap.size rfl HR.out _ rfl rfl (by unfold maxLen; omega) (by omega) hb2.size ?_; intro v6 w6 ho6 hg6 hs6)
                have hb6 : Below wo.heap.size wo w6 := Below.grown hb2 hg6 hb2.size (fun g hg => (own_block HR.out hg).1)
                have HR6 := Lib.hid ho6
                clear ho6 hg6 hs6
                go_wp2
                go_roundw
                case rel =>
                  refine ⟨j + 1, ys ++ [-1], by go_num, by omega, .inl (by omega), by simp; omega, ?_, ⟨true, rfl, ?_, (by intro h; cases h)⟩, hb6⟩
                  · unfold Hid; simpa using HR6.out
                  · intro _; rw [Nat.add_sub_cancel, HD.out]; exact HSN.out
                case measure => simp [intOf]; omega
              · have hse : (x.toList == [46]) = false := by rw [ByteArray.toList_eq]; exact beq_eq_false_iff_ne.2 hdot
                have hc1 : celS x.data.toList = numS x.data.toList := by unfold celS; rw [if_neg hdot]
                obtain ⟨nx, hnx⟩ : ∃ nx, nx = numS x.data.toList := ⟨_, rfl⟩
                rw [← hnx] at hc1
                have HC1 := Lib.hid hc1
                have HNX := Lib.hid hnx
                have lt2 := block_lt_of_cell t2
                clear hdot hc1 hnx
                go_wp2_with fail
                refine (HNU.out _).mono ?_
                unfold NumRet
                rw [← HNX.out]
                rintro e w5 ⟨rfl, rfl⟩
                go_wp2_with (at_builtin; refine wpList_push elem_intR rfl (.tmp 65) (.tmp 67) rfl wo.heap.size rfl HR.out _ rfl rfl (by unfold maxLen; omega) (by omega) hb2.size ?_; intro v6 w6 ho6 hg6 hs6)
                have hb6 : Below wo.heap.size wo w6 := Below.grown hb2 hg6 hb2.size (fun g hg => (own_block HR.out hg).1)
                have HR6 := Lib.hid ho6
                clear ho6 hg6 hs6
                go_wp2
                go_roundw
                case rel =>
                  refine ⟨j + 1, ys ++ [nx.getD 0], by go_num, by omega, .inl (by omega), by simp; omega, ?_, ⟨nx.isSome, rfl, ?_, ?_⟩, hb6⟩
                  · unfold Hid; simpa using HR6.out
                  · intro h
                    obtain ⟨y, hy⟩ := Option.isSome_iff_exists.1 h
                    rw [Nat.add_sub_cancel, HD.out]
                    refine allS_snoc _ _ _ _ HP2.out ?_
                    rw [HC1.out, hy]; rfl
                  · intro h
                    have hn : nx = none := by simpa using h
                    exact allS_mem_none _ _ HM2.out (by rw [HC1.out, hn])
                case measure => simp [intOf]; omega
            · have HT' : Hid (b2 = true → allS rowS ((tls bss).take (k + 1)) = some (zss ++ [ys])) := fun h => by
                have hj : ¬ j < rw'.length := fun hh => hgo ⟨hh, h⟩
                have h2 := HT2.out h
                rw [List.take_of_length_le (by rw [List.length_drop, tl_len]; omega)] at h2
                rw [HSTP.out]
                exact allS_snoc _ _ _ _ HPRE.out h2
              have HF' : Hid (b2 = false → P = none) := fun h => by
                have := allS_mem_none _ _ HMEM.out (HF2.out h)
                rw [HPT.out hokt, this]
              obtain ⟨ar, mr, cr2, rfl, HMr⟩ := own_shape HR.out
              obtain ⟨v0, rs, k0, k1, g1, ho⟩ := HO.out
              obtain ⟨av, mv, cv, rfl, HMv⟩ := own_shape ho.outer
              have hlob : w1.heap.size < wo.heap.size := block_lt_of_cell k1
              have kr0 := below_cell hb2 k0
              have kr1 := below_cell hb2 k1
              have gr1 := (hb2.frozen (p := ⟨w1.heap.size, 1, none⟩) hlob).trans g1
              have hor := ho.below hb2
              have lobr : w1.heap.size < wr.heap.size := block_lt_of_cell kr1
              have HOW := Lib.hid hor
              have HAP := Lib.hid (ho.apart_new HR.out)
              have hou := hor.outer
              rw [hzl] at hou
              have HOU := Lib.hid hou
              have hbw : Below w1.heap.size w1 wr := hb.trans (hb2.mono hb.size)
              have hbws := hbw.size
              have hcase : (¬ j < rw'.length) ∨ (j < rw'.length ∧ b2 = false) := by
                by_cases hj : j < rw'.length
                · refine .inr ⟨hj, ?_⟩
                  cases b2
                  · rfl
                  · exact absurd ⟨hj, rfl⟩ hgo
                · exact .inl hj
              clear hou hor ho HMv HMr HO hgo
              have hcase2 : (¬ j < rw'.length ∧ b2 = true) ∨ (¬ j < rw'.length ∧ b2 = false) ∨ (j < rw'.length ∧ b2 = false) := by
                rcases hcase with h | h
                · cases b2
                  · exact .inr (.inl ⟨h, rfl⟩)
                  · exact .inl ⟨h, rfl⟩
                · exact .inr (.inr h)
              clear hcase
              rcases hcase2 with ⟨hj, rfl⟩ | ⟨hj, rfl⟩ | ⟨hj, rfl⟩
              all_goals
                go_wp2_with (at_builtin; refine wpList_push elem_ints rfl (.tmp 70) (.tmp 72) rfl (w1.heap.size + 1) rfl HOU.out _ rfl rfl (by unfold maxLen; omega) (by omega) (by omega) ?_; intro v6 w6 ho6 hg6 hs6; obtain ⟨a6, m6, c6, rfl, HM6⟩ := own_shape ho6; have rc0 := grown_cell hg6 HOU.out (by omega) kr0; have rc1 := grown_cell hg6 HOU.out (by omega) kr1; have rc2 := grown_frozen hg6 HOU.out (by omega) kr1 gr1; have lob6 : w1.heap.size < w6.heap.size := block_lt_of_cell rc1)
                have hout := OutAt.pushed HOW.out kr0 kr1 gr1 (by omega) hg6 (by rw [hzl]; exact ho6) HR.out (by omega) HAP.out
                have hb7 : Below w1.heap.size w1 w6 := Below.grown hbw hg6 hbw.size (fun g hg => by have := (own_block HOU.out hg).1; omega)
                have HOUT := Lib.hid hout
                have HB7 := Lib.hid (hb7.setCell (p := ⟨w1.heap.size, 1, none⟩) (Nat.le_refl _) (.slice a6 m6 c6))
                clear hout ho6 hg6 hs6 hb7
                go_wp2
                go_roundw
                case rel => exact ⟨k + 1, by omega, by go_num, zss ++ [ys], by rw [List.length_append, hzl]; rfl, HOUT.out, (by first | exact HF'.out rfl | exact HT'.out rfl | exact HF'.out trivial | exact HT'.out trivial | (have := HF'.out; simpa using this) | (have := HT'.out; simpa using this)), HB7.out⟩
                case measure => simp [intOf]; omega
        · obtain rfl : k = bss.length := by omega
          obtain ⟨hokt, hpre⟩ := HT.out rfl
          have hfull : P = some (st, zss) := by
            rw [List.take_of_length_le (by simp [tls])] at hpre
            rw [HPT.out hokt, hpre]
          have HFULL := Lib.hid hfull
          obtain ⟨v0, rs, k0, k1, g1, ho⟩ := HO.out
          obtain ⟨av, mv, cv, rfl, HMv⟩ := own_shape ho.outer
          have C1 := Lib.hid (l04Ok_any w1.heap.size 0 st _ zss wr k0 k1 ho.reads)
          have HOW := Lib.hid ho
          have lob : w1.heap.size < wr.heap.size := block_lt_of_cell k1
          have hbb := below_trans bw1 hb
          clear hpre hfull HO HMv
          cases hv : validP st zss
          · have hA : A = (0, [], 5) := HNO.out (fun a xss h hh => by rw [HFULL.out] at h; injection h with h; injection h with h1 h2; subst h1; subst h2; rw [hv] at hh; exact absurd hh.1 (by simp))
            have HA := Lib.hid hA
            rw [hv] at C1
            clear hA hv ho
            go_wp2_with fail
            refine C1.out.mono ?_
            rintro e w2 ⟨rfl, hq⟩
            have hq2 := hq.below wr.heap.size
            have s4 := below_cell hq2 r4
            have s5 := below_cell hq2 r5
            have u4 := (hq2.frozen (p := ⟨w.heap.size, 0, none⟩) hzr).trans hf4
            have u5 := (hq2.frozen (p := ⟨w.heap.size, 1, none⟩) hzr).trans hf5
            have hz2 : w.heap.size < w2.heap.size := block_lt_of_cell s4
            have hbb2 := below_trans hbb hq2
            go_wp2
            rw [HA.out]
            exact bodyPost_ret (v := .tuple #[.agg #[.int .i64 0, .slice none 0 0], .int .i64 5]) (by simp [results, Tryd.results6, go_sem, s4, s5, hz2]) rfl ⟨_, [], rfl, ownRows_nil _ _, by repeat (first | exact hbb2 | refine below_set ?_ (by omega) _ _)⟩
          · obtain ⟨n, hg⟩ := goodP_of hv
            have HTX := Lib.hid (fun W (c0 : W.cell? ⟨w1.heap.size, 0, none⟩ = some (.int .i64 st)) (c1 : W.cell? ⟨w1.heap.size, 1, none⟩ = some (.slice av mv cv)) (hr : Rows2 W (.slice av mv cv) zss) => l04Text_any w1.heap.size st _ zss n W c0 c1 hr hg hv)
            have HVV := Lib.hid hv
            rw [hv] at C1
            have HYN := Lib.hid (fun ht => HYES.out st zss hv ht)
            have HNOT : Hid (¬ partTx st zss = s → A = (0, [], 5)) := fun h => HNO.out (fun a xss hp hh => by rw [HFULL.out] at hp; injection hp with hp; injection hp with h1 h2; subst h1; subst h2; exact h hh.2)
            generalize partTx st zss = tx at HTX HYN HNOT
            clear hv ho hg
            go_wp2_with fail
            refine C1.out.mono ?_
            rintro e w2 ⟨rfl, hq⟩
            have hq2 := hq.below wr.heap.size
            have m0 := below_cell hq2 k0
            have m1 := below_cell hq2 k1
            have s4 := below_cell hq2 r4
            have s5 := below_cell hq2 r5
            have u4 := (hq2.frozen (p := ⟨w.heap.size, 0, none⟩) hzr).trans hf4
            have u5 := (hq2.frozen (p := ⟨w.heap.size, 1, none⟩) hzr).trans hf5
            have hbb2 := below_trans hbb hq2
            have HO2 := Lib.hid (HOW.out.below hq2)
            have hz2 : w.heap.size < w2.heap.size := block_lt_of_cell s4
            clear hq hq2 r4 r5 hf4 hf5 k0 k1
            go_wp2_with fail
            refine (HTX.out w2 m0 m1 HO2.out.reads).mono ?_
            rintro e w3 ⟨rfl, hb3⟩
            replace m0 := below_cell hb3 m0
            replace m1 := below_cell hb3 m1
            have v4 := below_cell hb3 s4
            have v5 := below_cell hb3 s5
            have x4 := (hb3.frozen (p := ⟨w.heap.size, 0, none⟩) hz2).trans u4
            have x5 := (hb3.frozen (p := ⟨w.heap.size, 1, none⟩) hz2).trans u5
            have hbb3 := below_trans hbb2 hb3
            have HO3 := Lib.hid (HO2.out.below hb3)
            have hz3 : w.heap.size < w3.heap.size := block_lt_of_cell v4
            have lob3 : w1.heap.size < w3.heap.size := block_lt_of_cell m0
            clear s4 s5 u4 u5
            by_cases hte : tx = s
            · have hA := HYN.out hte
              have HA := Lib.hid hA
              clear hA
              go_wp2
              rw [HA.out]
              refine bodyPost_ret (v := .tuple #[.agg #[.int .i64 st, .slice av mv cv], .int .i64 0]) (by simp [results, Tryd.results6, go_sem, v4, v5, hz3]) rfl ⟨_, rs, rfl, ?_, by repeat (first | exact hbb3 | refine below_set ?_ (by omega) _ _)⟩
              refine OwnRows.mono (lo := w1.heap.size + 1) ?_ (by omega)
              repeat (first | exact HO3.out | refine OwnRows.set_below ?_ (by first | omega | simp) _ _)
            · have hse : (tx.toList == s.toList) = false := by rw [ByteArray.toList_eq, ByteArray.toList_eq]; exact beq_eq_false_iff_ne.2 (fun h => hte (bytes_eq h))
              have HA := Lib.hid (HNOT.out hte)
              clear hte
              go_wp2
              rw [HA.out]
              exact bodyPost_ret (v := .tuple #[.agg #[.int .i64 0, .slice none 0 0], .int .i64 5]) (by simp [results, Tryd.results6, go_sem, v4, v5, hz3]) rfl ⟨_, [], rfl, ownRows_nil _ _, by repeat (first | exact hbb3 | refine below_set ?_ (by omega) _ _)⟩
  · have hA := rp_big hbig
    generalize rpAns s = A at hA ⊢
    subst hA
    have hcd0 : (2000 : Int) < (s.size : Int) := by omega
    have hz : w.heap.size < W2.heap.size := block_lt_of_cell p4
    subst hW2
    go_enter Tryd.func6, Tryd.ntmps6
    go_wp2
    exact bodyPost_ret (v := .tuple #[.agg #[.int .i64 0, .slice none 0 0], .int .i64 2]) (by simp [results, Tryd.results6, go_sem, p4, p5, hz]) rfl ⟨_, [], rfl, ownRows_nil _ _, by repeat (first | exact bx | refine below_set ?_ (by omega) _ _)⟩
end Go.Proofs.YtfdacodbiodiaaaDoor
