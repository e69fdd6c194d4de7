/- ReadChoice: what it answers, by the strict reading and by the loose one; the reference's function. -/
import Derived.Test.YtfdacodbiodiaaaDoorRdAut
import Derived.Test.YtfdacodbiodiaaaDoorReadCho
import Derived.Test.YtfdacodbiodiaaaDoorChoiceText
import Derived.Test.YtfdacodbiodiaaaDoorCubeMark
import Derived.Test.YtfdacodbiodiaaaDoorRdPartS
import Derived.Test.YtfdacodbiodiaaaDoorChoiceOf
import Derived.Test.YtfdacodbiodiaaaDoorSpecChoice
namespace Go.Proofs.YtfdacodbiodiaaaDoor
set_option linter.unusedVariables false
set_option linter.unusedSimpArgs false
open Go.ChangeShapes Go.WideShapes Go.ChangeAt Go.RowKit

theorem join_joinL (c : UInt8) : ∀ (xs : List (List UInt8)), Lib.join xs [c] = joinL c xs
  | [] => rfl
  | [p] => Lib.join_one p [c]
  | p :: q :: ps => by
    rw [joinL_cons c p (by simp), ← join_joinL c (q :: ps)]
    simp [Lib.join, List.intercalate, List.intersperse]
theorem celC_G (zs : List Int) : celC zs = setG zs := by
  unfold celC setG
  by_cases h : zs.length = 0
  · rw [if_pos h, if_pos h]
  · rw [if_neg h, if_neg h]
    unfold jn
    rw [join_joinL, List.map_map]; rfl
theorem lineC_G (w : ByteArray) (zs : List (List Int)) : lineC w zs = lineG setG w zs := by
  have e : numC w zs = numG setG w zs := by
    unfold numC numG
    congr 1
    funext o z
    rw [celC_G]; rfl
  unfold lineC lineG
  rw [e]; rfl
theorem rowsC_G (o w : ByteArray) (xss : List (List (List Int))) : rowsC' o w xss = rowsG setG o w xss := by
  unfold rowsC' rowsG
  congr 1
  funext o r
  rw [lineC_G]
theorem choTx_G {st : Int} {xss : List (List (List Int))} (h : validC st xss = true) : choTx st xss = rowsG setG (lineG decG choG [st, xss.length]) letG xss := by
  unfold choTx
  rw [if_pos h, rowsC_G]; rfl
theorem goodC_mem {st : Int} {n : Nat} {xss : List (List (List Int))} (h : GoodC st n xss) : ∀ r ∈ xss, r.length = n ∧ ∀ s ∈ r, s.length ≤ n ∧ ∀ z ∈ s, 0 ≤ z ∧ z ≤ 10 := by
  intro r hr
  obtain ⟨k, hk, rfl⟩ := List.mem_iff_getElem.1 hr
  have e : xss.getD k [] = xss[k] := by simp [List.getD_eq_getElem?_getD, hk]
  have h2 := h.row k hk
  rw [e] at h2
  refine ⟨h2, fun s hs => ?_⟩
  obtain ⟨i, hi, rfl⟩ := List.mem_iff_getElem.1 hs
  have e2 : (xss.getD k []).getD i [] = (xss[k])[i] := by rw [e]; simp [List.getD_eq_getElem?_getD, hi]
  have h3 := h.len hk (show i < n by omega)
  have h4 := h.small hk (show i < n by omega)
  rw [e2] at h3 h4
  exact ⟨h3, h4⟩

/-- the state count, the rows, the code -/
def rcAns (t : ByteArray) : Int × List (List (List Int)) × Int :=
  if t.size ≤ 2000 then (if validC (choL t.data.toList).1 (choL t.data.toList).2 = true ∧ choTx (choL t.data.toList).1 (choL t.data.toList).2 = t then ((choL t.data.toList).1, (choL t.data.toList).2, 0) else (0, [], 5)) else (0, [], 2)
theorem rc_big {t : ByteArray} (h : ¬ t.size ≤ 2000) : rcAns t = (0, [], 2) := by unfold rcAns; rw [if_neg h]
theorem rc_yesL {t : ByteArray} (h : t.size ≤ 2000) {a : Int} {xss : List (List (List Int))} (hp : choL t.data.toList = (a, xss)) (hv : validC a xss = true) (ht : choTx a xss = t) : rcAns t = (a, xss, 0) := by
  unfold rcAns
  rw [if_pos h, hp, if_pos ⟨hv, ht⟩]
theorem rc_noL {t : ByteArray} (h : t.size ≤ 2000) {a : Int} {xss : List (List (List Int))} (hp : choL t.data.toList = (a, xss)) (hn : ¬ (validC a xss = true ∧ choTx a xss = t)) : rcAns t = (0, [], 5) := by
  unfold rcAns
  rw [if_pos h, hp, if_neg hn]
theorem cho_back {t : ByteArray} {a : Int} {xss : List (List (List Int))} (hv : validC a xss = true) (ht : choTx a xss = t) : choS t.data.toList = some (a, xss) ∧ choL t.data.toList = (a, xss) := by
  obtain ⟨n, g⟩ := goodC_of hv
  have h1 := g.st
  have h2 := g.lo
  have h3 := g.hi
  have h4 := g.len3
  have h := cho_read a xss (by omega) (by omega) (by omega) (fun r hr s hs => ((goodC_mem g r hr).2 s hs).2)
  rw [← ht, choTx_G hv]
  exact h
theorem rc_yesS {t : ByteArray} (h : t.size ≤ 2000) {a : Int} {xss : List (List (List Int))} (hv : validC a xss = true) (ht : choTx a xss = t) : rcAns t = (a, xss, 0) :=
  rc_yesL h (cho_back hv ht).2 hv ht
theorem rc_noS {t : ByteArray} (h : t.size ≤ 2000) (hn : ∀ a xss, choS t.data.toList = some (a, xss) → ¬ (validC a xss = true ∧ choTx a xss = t)) : rcAns t = (0, [], 5) := by
  obtain ⟨a, xss, hp⟩ : ∃ a xss, choL t.data.toList = (a, xss) := ⟨_, _, rfl⟩
  exact rc_noL h hp fun hh => hn a xss (cho_back hh.1 hh.2).1 hh
theorem bulk2_le2 {n : Nat} : ∀ (xss : List (List Int)), (∀ r ∈ xss, r.length ≤ n) → bulk2 xss ≤ n * xss.length
  | [], _ => by simp [bulk2]
  | r :: rs, h => by
    have h1 := bulk2_le2 rs (fun r hr' => h r (List.mem_cons_of_mem _ hr'))
    have h2 := h r (List.mem_cons_self ..)
    unfold bulk2 at h1 ⊢
    simp only [List.map_cons, List.sum_cons, List.length_cons]
    rw [Nat.mul_succ]
    omega
theorem bulkN_le2 {m : Nat} : ∀ (xss : List (List (List Int))), (∀ r ∈ xss, bulk2 r ≤ m) → bulkN xss ≤ m * xss.length
  | [], _ => by simp [bulkN]
  | r :: rs, h => by
    have h1 := bulkN_le2 rs (fun r hr' => h r (List.mem_cons_of_mem _ hr'))
    have h2 := h r (List.mem_cons_self ..)
    unfold bulkN at h1 ⊢
    simp only [List.map_cons, List.sum_cons, List.length_cons]
    rw [Nat.mul_succ]
    omega
theorem rc_bulk (t : ByteArray) : bulkN (rcAns t).2.1 ≤ 1000 := by
  unfold rcAns
  split
  · split
    · rename_i h
      obtain ⟨n, g⟩ := goodC_of h.1
      have h3 := g.len3
      have hn := g.hi
      have hb := bulkN_le2 (m := 100) (choL t.data.toList).2 (fun r hr => by
        have h1 := goodC_mem g r hr
        have h2 := bulk2_le2 r (fun s hs => (h1.2 s hs).1)
        have h4 : n * r.length ≤ 10 * 10 := Nat.mul_le_mul hn (by omega)
        omega)
      show bulkN (choL t.data.toList).2 ≤ 1000
      omega
    · simp [bulkN]
  · simp [bulkN]
def rowC (w : List (List UInt8)) : Option (List (List Int)) := allS setS (w.drop 1)
theorem choS_lines (t : List UInt8) : choS t = match linesS choG.data.toList t with
  | none => none
  | some (a, ws) => match allS rowC ws with
    | none => none
    | some xss => some (a, xss) := rfl

set_option maxRecDepth 100000 in
set_option maxHeartbeats 8000000 in
theorem specReadCho_any (s : ByteArray) (w : World) (hs : s.size ≤ 1048576) :
    Calls Tryd.prog 11 #[.string s] w (NewChoice2 (rcAns s).1 (rcAns s).2.1 (rcAns s).2.2 w) := by
  obtain ⟨W2, hW2⟩ : ∃ W2, W2 = w.alloc (.cells #[.int .i64 0, .slice none 0 0] 32) := ⟨_, rfl⟩
  have bx : Below w.heap.size w W2 := by rw [hW2]; exact below_alloc (Below.refl _ _) _
  have p4 : W2.cell? ⟨w.heap.size, 0, none⟩ = some (.int .i64 0) := by rw [hW2]; go_simp
  have p5 : W2.cell? ⟨w.heap.size, 1, none⟩ = some (.slice none 0 0) := by rw [hW2]; go_simp
  have g4 : W2.frozen? ⟨w.heap.size, 0, none⟩ = false := by rw [hW2]; go_simp
  have g5 : W2.frozen? ⟨w.heap.size, 1, none⟩ = false := by rw [hW2]; go_simp
  by_cases hbig : s.size ≤ 2000
  · have hcd0 : ¬ ((2000 : Int) < (s.size : Int)) := by omega
    have HLN := Lib.hid (l04Lines_any s choG W2 hbig (by decide))
    have HYES := Lib.hid (fun a xss hv ht => rc_yesS (t := s) hbig (a := a) (xss := xss) hv ht)
    have HNO := Lib.hid (fun hn => rc_noS (t := s) hbig hn)
    have HPS := Lib.hid (choS_lines s.data.toList)
    have HSM := Lib.hid (fun a ws h => lines_small (name := choG.data.toList) (t := s.data.toList) (a := a) (ws := ws) h)
    rw [size_listG] at HSM
    generalize rcAns s = A at HYES HNO ⊢
    generalize choS s.data.toList = P at HNO HPS
    generalize linesS choG.data.toList s.data.toList = r at HLN HPS HSM
    subst hW2
    go_enter Tryd.func11, Tryd.ntmps11
    go_wp2_with fail
    refine HLN.out.mono ?_
    rintro e w1 ⟨v, bss, st, rfl, hsr, hrp, hb1⟩
    obtain ⟨ao, ab, o, c, T⟩ := hsr.open
    have hv0 := T.val
    subst hv0
    have AD := T.adr
    have HROWS := Lib.hid hsr
    obtain ⟨okv, hok⟩ : ∃ okv, okv = r.isSome := ⟨_, rfl⟩
    rw [← hok]
    have HPT : Hid (okv = true → P = match allS rowC (tls bss) with | none => none | some xss => some (st, xss)) := fun h => by
      rw [hok] at h
      obtain ⟨p, hp⟩ := Option.isSome_iff_exists.1 h
      have h2 := hrp p hp
      rw [HPS.out, hp, h2]; rfl
    have HPF : Hid (okv = false → P = none) := fun h => by
      rw [hok] at h
      have : r = none := by simpa using h
      rw [HPS.out, this]
    have HLEN : Hid (okv = true → bss.length ≤ 2001 ∧ ∀ b ∈ bss, b.length ≤ 2001 ∧ ∀ x ∈ b, x.size ≤ 2000) := fun h => by
      rw [hok] at h
      obtain ⟨p, hp⟩ := Option.isSome_iff_exists.1 h
      have h2 := hrp p hp
      rw [h2] at hp
      obtain ⟨q1, q2⟩ := HSM.out _ _ hp
      refine ⟨by rw [List.length_map] at q1; omega, fun b hb => ?_⟩
      obtain ⟨q3, q4⟩ := q2 _ (List.mem_map_of_mem hb)
      refine ⟨by rw [List.length_map] at q3; omega, fun x hx => ?_⟩
      have := q4 _ (List.mem_map_of_mem hx)
      rw [size_listG] at this
      omega
    have q4 := below_cell hb1 p4
    have q5 := below_cell hb1 p5
    have f4 := (hb1.frozen (p := ⟨w.heap.size, 0, none⟩) (block_lt_of_cell p4)).trans g4
    have f5 := (hb1.frozen (p := ⟨w.heap.size, 1, none⟩) (block_lt_of_cell p5)).trans g5
    have bw1 := below_trans bx hb1
    have HO0 : Hid (CAt (w1.alloc (.cells #[.int .i64 st, .slice none 0 0] 32)) w1.heap.size st []) := ⟨_, [], by go_simp, by go_simp, by go_simp, cubeIn_nil _ _⟩
    have hB0 : Below w1.heap.size w1 (w1.alloc (.cells #[.int .i64 st, .slice none 0 0] 32)) := below_alloc (Below.refl _ _) _
    have hz0 : w.heap.size < w1.heap.size := block_lt_of_cell q4
    have hc63 := T.len
    clear hrp hok hsr hb1 p4 p5 g4 g5 HSM HPS T
    go_wp2
    go_loopw [6, 8, 9, 10, 11] (fun okk i r1 ii n1 wr => ∃ (k : Nat) (zss : List (List (List Int))), k ≤ bss.length ∧ i = .int .i64 k ∧ zss.length = k ∧ Hid (CAt wr w1.heap.size st zss) ∧ Hid (∃ b : Bool, okk = .bool b ∧ (b = true → okv = true ∧ allS rowC ((tls bss).take k) = some zss) ∧ (b = false → P = none)) ∧ Below w1.heap.size w1 wr) (fun _ i _ _ _ _ => bss.length - (intOf i).toNat)
    case atStart => exact ⟨0, [], Nat.zero_le _, rfl, rfl, HO0.out, ⟨okv, rfl, (fun h => ⟨h, rfl⟩), HPF.out⟩, hB0⟩
    case round =>
      obtain ⟨k, zss, hk, rfl, hzl, HO, HBB, hb⟩ := hrel
      obtain ⟨b, rfl, hT0, hF0⟩ := HBB.out
      have HT := Lib.hid hT0
      have HF := Lib.hid hF0
      clear hT0 hF0 HBB
      have r4 := below_cell hb q4
      have r5 := below_cell hb q5
      have hf4 := (hb.frozen (p := ⟨w.heap.size, 0, none⟩) hz0).trans f4
      have hf5 := (hb.frozen (p := ⟨w.heap.size, 1, none⟩) hz0).trans f5
      have hzr : w.heap.size < wr.heap.size := block_lt_of_cell r4
      cases b with
      | false =>
        have hA : A = (0, [], 5) := HNO.out (fun a xss h => by rw [HF.out rfl] at h; cases h)
        obtain ⟨v0, rs, k0, k1, g1, ho⟩ := HO.out
        have hbb := below_trans bw1 hb
        have HA := Lib.hid hA
        clear hA ho
        by_cases hlt : k < bss.length
        all_goals
          go_wp2
          rw [HA.out]
          exact bodyPost_ret (v := .tuple #[.agg #[.int .i64 0, .slice none 0 0], .int .i64 5]) (by simp [results, Tryd.results11, go_sem, r4, r5, hzr]) rfl ⟨_, [], rfl, cubeIn_nil _ _, by repeat (first | exact hbb | refine below_set ?_ (by omega) _ _)⟩
      | true =>
        by_cases hlt : k < bss.length
        · obtain ⟨hokt, hpre⟩ := HT.out rfl
          obtain ⟨ml, hml⟩ := HLEN.out hokt
          have i1 := idx_of Tryd.underlying42 size1_strsR (c := c) AD hlt .i64
          obtain ⟨ao', ab', o', c', T⟩ := (HROWS.out.below hb).open
          have hvt := T.val
          injection hvt with hvt1 hvt2 hvt3
          obtain ⟨r1, d1, hr1⟩ := T.cell k hlt
          have had := T.adr (by omega)
          rw [← hvt1, AD (by omega)] at had
          injection had with had
          injection had with e1 e2
          rw [← e1, ← e2] at d1
          obtain ⟨aor, abr, orr, cr, V⟩ := Strs.open hr1
          have hvv := V.val
          subst hvv
          have HSTP := Lib.hid (tls_take hlt)
          have HMEM := Lib.hid (tls_mem hlt)
          obtain ⟨hrl, hrx⟩ := hml _ (List.getElem_mem hlt)
          obtain ⟨rw', hrw⟩ : ∃ rw', rw' = bss[k] := ⟨_, rfl⟩
          rw [← hrw] at d1 hr1 V HSTP HMEM hrl hrx
          have AR := V.adr
          have HX := Lib.hid hrx
          have HV := Lib.hid (fun j (hj : j < rw'.length) => V.cell j hj)
          have HPRE := Lib.hid hpre
          obtain ⟨wo, rfl⟩ : ∃ wo : World, wo = wr := ⟨_, rfl⟩
          have HE2 := Lib.hid (ownRows_empty wo wo.heap.size (Nat.le_refl _))
          have hbe2 : Below wo.heap.size wo (wo.alloc (.cells #[] 45)) := below_alloc (Below.refl _ _) _
          have hlow := hb.size
          clear hrw hrx hvt1 hvt2 hvt3 e1 e2 T V hr1 hpre hml
          go_wp2
          go_loopw [6, 9, 10, 11] (fun okk u i n1 wr => ∃ (j : Nat) (ys : List (List Int)), i = .int .i64 j ∧ 1 ≤ j ∧ (j ≤ rw'.length ∨ j = 1) ∧ ys.length + 1 = j ∧ Hid (∃ rss, OwnRows wr wo.heap.size u rss ys) ∧ Hid (∃ b2 : Bool, okk = .bool b2 ∧ (b2 = true → allS setS (((tl rw').drop 1).take (j - 1)) = some ys) ∧ (b2 = false → rowC (tl rw') = none)) ∧ Below wo.heap.size wo wr) (fun _ _ i _ _ => 4096 - (intOf i).toNat)
          case atStart => exact ⟨1, [], rfl, Nat.le_refl _, .inr rfl, rfl, ⟨[], HE2.out⟩, ⟨true, rfl, (fun _ => rfl), (by intro h; cases h)⟩, hbe2⟩
          case round =>
            obtain ⟨j, ys, rfl, hj1, hj2, hyl, HR, HBB, hb2⟩ := hrel
            obtain ⟨b2, rfl, hT0, hF0⟩ := HBB.out
            have HT2 := Lib.hid hT0
            have HF2 := Lib.hid hF0
            clear hT0 hF0 HBB
            have t1 := below_cell hb2 d1
            have lt1 := block_lt_of_cell t1
            obtain ⟨rss, hu⟩ := HR.out
            obtain ⟨au, mu, cu, rfl, HMu⟩ := own_shape hu.outer
            have HUU := Lib.hid hu
            have hsz : wo.heap.size ≤ wr.heap.size := hb2.size
            by_cases hgo : j < rw'.length ∧ b2 = true
            · obtain ⟨hj, rfl⟩ := hgo
              have i2 := idx_of Tryd.underlying46 size1_stringR (c := cr) AR hj .i64
              have t2 := below_cell hb2 (HV.out j hj)
              have HD := Lib.hid (tl_drop hj1 hj)
              have HM2 := Lib.hid (tl_mem hj1 hj)
              have hxs := HX.out _ (List.getElem_mem hj)
              obtain ⟨x, hx⟩ : ∃ x, x = rw'[j] := ⟨_, rfl⟩
              rw [← hx] at t2 HD HM2 hxs
              have HP2 := Lib.hid (HT2.out rfl)
              have HSPX := Lib.hid (fun W => l01Split_any x 44 W (by omega))
              have HES := Lib.hid (own_empty wr wr.heap.size (Nat.le_refl _) 2)
              clear hx hu HR HMu
              go_upto_region 13 with fail
              have hes := HES.out
              have hbS : Below wr.heap.size wr (wr.alloc (.cells #[] 2)) := below_alloc (Below.refl _ _) _
              generalize hsv : Value.slice (some ⟨wr.heap.size, 0, none⟩) 0 0 = sv at hes ⊢
              obtain ⟨aS, mS, cS, rfl, HMS⟩ := own_shape hes
              generalize wr.alloc (.cells #[] 2) = wS at hes hbS ⊢
              replace t1 := below_cell hbS t1
              replace t2 := below_cell hbS t2
              replace lt1 := block_lt_of_cell t1
              have lt2 := block_lt_of_cell t2
              have HES2 := Lib.hid hes
              have hszS : wr.heap.size ≤ wS.heap.size := hbS.size
              clear hsv hes HES
              by_cases hdot : x.data.toList = [46]
              · have hse : (x.toList == [46]) = true := by rw [ByteArray.toList_eq, hdot]; rfl
                have hc1 : setS x.data.toList = some [] := by unfold setS; rw [if_pos hdot]
                have HSN := Lib.hid (allS_snoc _ _ _ _ HP2.out hc1)
                clear hdot hc1
                go_wp2_with (at_builtin; refine wpList_push elem_ints rfl (.tmp 67) (.tmp 69) rfl wo.heap.size (v := .slice au mu cu) rfl (own_below HUU.out.outer hbS) (.slice aS mS cS) rfl rfl (by unfold maxLen; omega) (by omega) (by omega) ?_; intro v6 w6 ho6 hg6 hs6)
                have hra := (HUU.out.below hbS).append hg6 ho6 (ys := []) (own_lo HES2.out hsz) (fun i hi => apart_symm (apart_newer0 (HUU.out.row i hi) HES2.out (Nat.le_refl _)))
                have HRA := Lib.hid hra
                have hb6 : Below wo.heap.size wo w6 := (hb2.trans (hbS.mono hsz)).grown hg6 (by omega) (fun g hg => (own_block HUU.out.outer hg).1)
                clear hra ho6 hg6 hs6
                go_wp2
                go_roundw
                case rel =>
                  refine ⟨j + 1, ys ++ [[]], by go_num, by omega, .inl (by omega), by simp; omega, ⟨_, HRA.out⟩, ⟨true, rfl, ?_, (by intro h; cases h)⟩, hb6⟩
                  · intro _; rw [Nat.add_sub_cancel, HD.out]; exact HSN.out
                case measure => simp [intOf]; omega
              · have hse : (x.toList == [46]) = false := by rw [ByteArray.toList_eq]; exact beq_eq_false_iff_ne.2 hdot
                have hc1 : setS x.data.toList = allS numS (cutL 44 x.data.toList) := by unfold setS; rw [if_neg hdot]
                clear hdot
                go_wp2_with fail
                refine (HSPX.out _).mono ?_
                rintro e w4 ⟨v4, ps, rfl, ho4, hc4, hb4⟩
                have C4 : CutOf 44 x ps := ⟨hc4⟩
                have hp4 := C4.pos
                have hl4 := C4.len
                obtain ⟨g4', k4, rfl, _⟩ := own_some ho4 hp4
                have HLC4 : Hid (∀ k (h : k < ps.length), w4.cell? ⟨g4', 0 + k, none⟩ = some (.string ps[k])) := fun k h => by rw [Nat.zero_add, ho4.cellAt k (by omega)]; simp [h]
                have hps := HLC4.out 0 hp4
                have hsz4 : ∀ x ∈ ps, x.size ≤ 1048576 := fun y hy => by have := C4.size y hy; omega
                have HNB4 := Lib.hid (l01Numbers_any ps g4' 0 k4 0 w4 (by omega) hsz4 (by omega) (block_lt_of_cell hps) HLC4.out)
                rw [List.drop_zero, C4.eq] at HNB4
                rw [← C4.eq] at hc1
                rw [C4.eq] at hc1
                generalize allS numS (cutL 44 x.data.toList) = nx at HNB4 hc1
                have HC1 := Lib.hid hc1
                clear ho4 hc4 C4 hsz4 hps hc1
                go_wp2_with fail
                refine HNB4.out.mono ?_
                rintro e w5 ⟨v5, zs, rfl, ho5, hz5, hb5⟩
                have hbS5 : Below wr.heap.size wr w5 := hbS.trans ((hb4.trans (hb5.mono hb4.size)).mono hszS)
                have hsz5 : wr.heap.size ≤ w4.heap.size := Nat.le_trans hszS hb4.size
                have hsz6 : wr.heap.size ≤ w5.heap.size := hbS5.size
                obtain ⟨a5, m5, c5, rfl, HM5⟩ := own_shape ho5
                have HO5 := Lib.hid ho5
                have HZ5 := Lib.hid hz5
                clear ho5 hz5
                go_wp2_with (at_builtin; refine wpList_push elem_ints rfl (.tmp 67) (.tmp 69) rfl wo.heap.size (v := .slice au mu cu) rfl (own_below HUU.out.outer hbS5) (.slice a5 m5 c5) rfl rfl (by unfold maxLen; omega) (by omega) (by omega) ?_; intro v6 w6 ho6 hg6 hs6)
                have hra := (HUU.out.below hbS5).append hg6 ho6 (ys := zs) (own_lo HO5.out (by omega)) (fun i hi => apart_symm (apart_newer0 (HUU.out.row i hi) HO5.out hsz5))
                have HRA := Lib.hid hra
                have hb6 : Below wo.heap.size wo w6 := (hb2.trans (hbS5.mono hsz)).grown hg6 (by omega) (fun g hg => (own_block HUU.out.outer hg).1)
                clear hra ho6 hg6 hs6
                go_wp2
                go_roundw
                case rel =>
                  refine ⟨j + 1, ys ++ [zs], by go_num, by omega, .inl (by omega), by simp; omega, ⟨_, HRA.out⟩, ⟨nx.isSome, rfl, ?_, ?_⟩, hb6⟩
                  · intro h
                    obtain ⟨y, hy⟩ := Option.isSome_iff_exists.1 h
                    have hzy := HZ5.out y hy
                    rw [Nat.add_sub_cancel, HD.out]
                    refine allS_snoc _ _ _ _ HP2.out ?_
                    rw [HC1.out, hy, hzy]
                  · intro h
                    have hn : nx = none := by simpa using h
                    exact allS_mem_none _ _ HM2.out (by rw [HC1.out, hn])
                case measure => simp [intOf]; omega
            · have HT' : Hid (b2 = true → allS rowC ((tls bss).take (k + 1)) = some (zss ++ [ys])) := fun h => by
                have hj : ¬ j < rw'.length := fun hh => hgo ⟨hh, h⟩
                have h2 := HT2.out h
                rw [List.take_of_length_le (by rw [List.length_drop, tl_len]; omega)] at h2
                rw [HSTP.out]
                exact allS_snoc _ _ _ _ HPRE.out h2
              have HF' : Hid (b2 = false → P = none) := fun h => by
                have := allS_mem_none _ _ HMEM.out (HF2.out h)
                rw [HPT.out hokt, this]
              obtain ⟨v0, rs, k0, k1, g1, ho⟩ := HO.out
              obtain ⟨av, mv, cv, rfl, HMv⟩ := own_shape ho.outer
              have hlob : w1.heap.size < wo.heap.size := block_lt_of_cell k1
              have kr0 := below_cell hb2 k0
              have kr1 := below_cell hb2 k1
              have gr1 := (hb2.frozen (p := ⟨w1.heap.size, 1, none⟩) hlob).trans g1
              have lobr : w1.heap.size < wr.heap.size := block_lt_of_cell kr1
              have hou := own_below ho.outer hb2
              rw [hzl] at hou
              have HOU := Lib.hid hou
              have HCB := Lib.hid ho
              have HK := Lib.hid (And.intro k0 (And.intro k1 g1))
              have hbw : Below w1.heap.size w1 wr := hb.trans (hb2.mono hb.size)
              have hbws := hbw.size
              have hcase : (¬ j < rw'.length) ∨ (j < rw'.length ∧ b2 = false) := by
                by_cases hj : j < rw'.length
                · refine .inr ⟨hj, ?_⟩
                  cases b2
                  · rfl
                  · exact absurd ⟨hj, rfl⟩ hgo
                · exact .inl hj
              clear hou ho HMv HO hgo hu HR HMu k0 k1 g1
              have hcase2 : (¬ j < rw'.length ∧ b2 = true) ∨ (¬ j < rw'.length ∧ b2 = false) ∨ (j < rw'.length ∧ b2 = false) := by
                rcases hcase with h | h
                · cases b2
                  · exact .inr (.inl ⟨h, rfl⟩)
                  · exact .inl ⟨h, rfl⟩
                · exact .inr (.inr h)
              clear hcase
              rcases hcase2 with ⟨hj, rfl⟩ | ⟨hj, rfl⟩ | ⟨hj, rfl⟩
              all_goals
                go_wp2_with (at_builtin; refine wpList_push elem_cube rfl (.tmp 72) (.tmp 74) rfl (w1.heap.size + 1) (v := .slice av mv cv) rfl HOU.out (.slice au mu cu) rfl rfl (by unfold maxLen; omega) (by omega) (by omega) ?_; intro v6 w6 ho6 hg6 hs6; obtain ⟨a6, m6, c6, rfl, HM6⟩ := own_shape ho6; have rc1 := grown_cell hg6 HOU.out (Nat.lt_succ_self _) kr1; have rc2 := grown_frozen hg6 HOU.out (Nat.lt_succ_self _) kr1 gr1; have lob6 : w1.heap.size < w6.heap.size := block_lt_of_cell rc1)
                have hout := CAt.push HK.out.1 HK.out.2.1 HK.out.2.2 HCB.out hb2 HUU.out (Below.refl _ _) (by rw [hzl]; exact ho6) hg6 hs6
                have hb7 : Below w1.heap.size w1 w6 := Below.grown hbw hg6 hbw.size (fun g hg => by have := (own_block HOU.out hg).1; omega)
                have HOUT := Lib.hid hout
                have HB7 := Lib.hid (hb7.setCell (p := ⟨w1.heap.size, 1, none⟩) (Nat.le_refl _) (.slice a6 m6 c6))
                clear hout ho6 hg6 hs6 hb7
                go_wp2
                go_roundw
                case rel => exact ⟨k + 1, by omega, by go_num, zss ++ [ys], by rw [List.length_append, hzl]; rfl, HOUT.out, (by first | exact HF'.out rfl | exact HT'.out rfl | exact HF'.out trivial | exact HT'.out trivial | (have := HF'.out; simpa using this) | (have := HT'.out; simpa using this)), HB7.out⟩
                case measure => simp [intOf]; omega
        · obtain rfl : k = bss.length := by omega
          obtain ⟨hokt, hpre⟩ := HT.out rfl
          have hfull : P = some (st, zss) := by
            rw [List.take_of_length_le (by simp [tls])] at hpre
            rw [HPT.out hokt, hpre]
          have HFULL := Lib.hid hfull
          obtain ⟨v0, rs, k0, k1, g1, ho⟩ := HO.out
          obtain ⟨av, mv, cv, rfl, HMv⟩ := own_shape ho.outer
          have C1 := Lib.hid (l04Choices_any w1.heap.size 0 st _ zss wr k0 k1 ho.reads)
          have HOW := Lib.hid ho
          have lob : w1.heap.size < wr.heap.size := block_lt_of_cell k1
          have hbb := below_trans bw1 hb
          clear hpre hfull HO HMv
          cases hv : validC st zss
          · have hA : A = (0, [], 5) := HNO.out (fun a xss h hh => by rw [HFULL.out] at h; injection h with h; injection h with h1 h2; subst h1; subst h2; rw [hv] at hh; exact absurd hh.1 (by simp))
            have HA := Lib.hid hA
            rw [hv] at C1
            clear hA hv ho
            go_wp2_with fail
            refine C1.out.mono ?_
            rintro e w2 ⟨rfl, hq⟩
            have hq2 := hq.below wr.heap.size
            have s4 := below_cell hq2 r4
            have s5 := below_cell hq2 r5
            have u4 := (hq2.frozen (p := ⟨w.heap.size, 0, none⟩) hzr).trans hf4
            have u5 := (hq2.frozen (p := ⟨w.heap.size, 1, none⟩) hzr).trans hf5
            have hz2 : w.heap.size < w2.heap.size := block_lt_of_cell s4
            have hbb2 := below_trans hbb hq2
            go_wp2
            rw [HA.out]
            exact bodyPost_ret (v := .tuple #[.agg #[.int .i64 0, .slice none 0 0], .int .i64 5]) (by simp [results, Tryd.results11, go_sem, s4, s5, hz2]) rfl ⟨_, [], rfl, cubeIn_nil _ _, by repeat (first | exact hbb2 | refine below_set ?_ (by omega) _ _)⟩
          · obtain ⟨n, hg⟩ := goodC_of hv
            have HTX := Lib.hid (fun W (c0 : W.cell? ⟨w1.heap.size, 0, none⟩ = some (.int .i64 st)) (c1 : W.cell? ⟨w1.heap.size, 1, none⟩ = some (.slice av mv cv)) (hr : Rows3 W (.slice av mv cv) zss) => l04ChoText_any w1.heap.size st _ zss n W c0 c1 hr hg hv)
            have HVV := Lib.hid hv
            rw [hv] at C1
            have HYN := Lib.hid (fun ht => HYES.out st zss hv ht)
            have HNOT : Hid (¬ choTx st zss = s → A = (0, [], 5)) := fun h => HNO.out (fun a xss hp hh => by rw [HFULL.out] at hp; injection hp with hp; injection hp with h1 h2; subst h1; subst h2; exact h hh.2)
            generalize choTx st zss = tx at HTX HYN HNOT
            clear hv ho hg
            go_wp2_with fail
            refine C1.out.mono ?_
            rintro e w2 ⟨rfl, hq⟩
            have hq2 := hq.below wr.heap.size
            have m0 := below_cell hq2 k0
            have m1 := below_cell hq2 k1
            have s4 := below_cell hq2 r4
            have s5 := below_cell hq2 r5
            have u4 := (hq2.frozen (p := ⟨w.heap.size, 0, none⟩) hzr).trans hf4
            have u5 := (hq2.frozen (p := ⟨w.heap.size, 1, none⟩) hzr).trans hf5
            have hbb2 := below_trans hbb hq2
            have HO2 := Lib.hid (HOW.out.below hq2)
            have hz2 : w.heap.size < w2.heap.size := block_lt_of_cell s4
            clear hq hq2 r4 r5 hf4 hf5 k0 k1
            go_wp2_with fail
            refine (HTX.out w2 m0 m1 HO2.out.reads).mono ?_
            rintro e w3 ⟨rfl, hb3⟩
            replace m0 := below_cell hb3 m0
            replace m1 := below_cell hb3 m1
            have v4 := below_cell hb3 s4
            have v5 := below_cell hb3 s5
            have x4 := (hb3.frozen (p := ⟨w.heap.size, 0, none⟩) hz2).trans u4
            have x5 := (hb3.frozen (p := ⟨w.heap.size, 1, none⟩) hz2).trans u5
            have hbb3 := below_trans hbb2 hb3
            have HO3 := Lib.hid (HO2.out.below hb3)
            have hz3 : w.heap.size < w3.heap.size := block_lt_of_cell v4
            have lob3 : w1.heap.size < w3.heap.size := block_lt_of_cell m0
            clear s4 s5 u4 u5
            by_cases hte : tx = s
            · have hA := HYN.out hte
              have HA := Lib.hid hA
              clear hA
              go_wp2
              rw [HA.out]
              refine bodyPost_ret (v := .tuple #[.agg #[.int .i64 st, .slice av mv cv], .int .i64 0]) (by simp [results, Tryd.results11, go_sem, v4, v5, hz3]) rfl ⟨_, rs, rfl, ?_, by repeat (first | exact hbb3 | refine below_set ?_ (by omega) _ _)⟩
              exact ((((HO3.out.set_below (by omega) _ _).set_below (by omega) _ _).mono (by omega))).upto
            · have hse : (tx.toList == s.toList) = false := by rw [ByteArray.toList_eq, ByteArray.toList_eq]; exact beq_eq_false_iff_ne.2 (fun h => hte (bytes_eq h))
              have HA := Lib.hid (HNOT.out hte)
              clear hte
              go_wp2
              rw [HA.out]
              exact bodyPost_ret (v := .tuple #[.agg #[.int .i64 0, .slice none 0 0], .int .i64 5]) (by simp [results, Tryd.results11, go_sem, v4, v5, hz3]) rfl ⟨_, [], rfl, cubeIn_nil _ _, by repeat (first | exact hbb3 | refine below_set ?_ (by omega) _ _)⟩
  · have hA := rc_big hbig
    generalize rcAns s = A at hA ⊢
    subst hA
    have hcd0 : (2000 : Int) < (s.size : Int) := by omega
    have hz : w.heap.size < W2.heap.size := block_lt_of_cell p4
    subst hW2
    go_enter Tryd.func11, Tryd.ntmps11
    go_wp2
    exact bodyPost_ret (v := .tuple #[.agg #[.int .i64 0, .slice none 0 0], .int .i64 2]) (by simp [results, Tryd.results11, go_sem, p4, p5, hz]) rfl ⟨_, [], rfl, cubeIn_nil _ _, by repeat (first | exact bx | refine below_set ?_ (by omega) _ _)⟩
end Go.Proofs.YtfdacodbiodiaaaDoor
