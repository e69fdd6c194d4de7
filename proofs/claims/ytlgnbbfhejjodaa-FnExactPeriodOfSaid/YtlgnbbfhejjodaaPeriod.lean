/- (Automaton).period of the program. -/
import Derived.Test.YtlgnbbfhejjodaaPeriodAt
import Derived.Test.YtlgnbbfhejjodaaTourI
namespace Go.Proofs.Ytlgnbbfhejjodaa
set_option linter.unusedVariables false
set_option linter.unusedSimpArgs false
open Go.ChangeShapes Go.WideShapes Go.ChangeAt Go.RowKit

theorem key_int (s : Int) (h : 0 ≤ s ∧ s < 1024) : keyOf Try.prog 2 (.int .i64 s) = some (.int .i64 s) :=
  Maps.keyOf_int_mk Try.underlying2 (WalkArith.wf_i64 (by omega))
theorem int_law : Maps.Keyed Try.prog 2 := Maps.int_keyed Try.underlying2
theorem zero_int (w : World) : (zeroValue 2).run Try.prog w = .ok (.int .i64 0) w := by kernel_rfl

/-- what the loops of period keep: the queue's value, the map -/
structure PdAt (W w : World) (lo mb : Nat) (qv : Value) (p : PState) : Prop where
  list : w.ownsRow lo 2 1 qv p.1.length (p.1.map (Value.int .i64))
  map : ∃ F, MapAt Try.prog 2 w mb p.1.length F ∧ FarAt F p
  below : Below lo W w

theorem PdAt.look {W w : World} {lo mb : Nat} {qv : Value} {p : PState} (h : PdAt W w lo mb qv p) {s : Int} (hs : 0 ≤ s ∧ s < 1024) (hz : s ∈ p.1) :
    (Instr.lookup 137 (.map (some mb)) (.int .i64 s) false).run Try.prog w = .ok (.int .i64 (p.2 s)) w := by
  obtain ⟨F, hm, hf⟩ := h.map
  have := hm.look int_law Try.underlying137 (zero_int w) (key_int s hs)
  rw [hf s, if_pos hz] at this
  exact this
theorem PdAt.next {W w w' : World} {lo mb : Nat} {qv : Value} {p : PState} (h : PdAt W w lo mb qv p) (hb : Below w.heap.size w w') (hl : lo ≤ w.heap.size) : PdAt W w' lo mb qv p := by
  obtain ⟨F, hm, hf⟩ := h.map
  exact ⟨own_below h.list hb, ⟨F, hm.below hb, hf⟩, h.below.trans (hb.mono hl)⟩


set_option maxRecDepth 100000 in
set_option maxHeartbeats 4000000 in
theorem period_any (v : Value) (xss : List (List Int)) (n : Nat) (w : World) (h1 : Rows2 w v xss) (hg : Good n n xss) (hj : (rcZs xss 0).length = n) :
    Calls Try.prog 92 #[.agg #[.int .i64 n, v]] w (RetB (.int .i64 (pdG xss n)) w) := by
  have hn10 := hg.hi
  have hn1 := hg.lo
  obtain ⟨ao, p1, o1, c, H1⟩ := h1.open
  have hv1 := H1.val
  subst hv1
  have hm := H1.len
  have A1 := H1.adr
  have hl3 := hg.len3
  have HROW := Lib.hid (fun k (hk : k < xss.length) => H1.cell k hk)
  have HRL := Lib.hid (fun k (hk : k < xss.length) => hg.row hk)
  have HG := Lib.hid hg
  have HD := Lib.hid (fun i => rTo_dist hg (s := 0) ⟨by omega, by omega⟩ i)
  have HEND := Lib.hid (fun k (hk : (pTo xss k).1.length = k) (hi : k ≤ 1024) => gTo_end hg hj hk hi)
  have hmm := @run_makeMap Try.prog
  have HK := Lib.hid key_int
  obtain ⟨W2, hW2⟩ : ∃ W2, W2 = w.alloc (.cells #[.int .i64 n, .slice ao xss.length c] 28) := ⟨_, rfl⟩
  have hm0 := MapAt.made Try.prog 2 W2
  have bW2 : Below w.heap.size w W2 := by rw [hW2]; exact below_alloc (Below.refl _ _) _
  have sW2 : W2.heap.size = w.heap.size + 1 := by rw [hW2]; simp
  have x0 : W2.cell? ⟨w.heap.size, 0, none⟩ = some (.int .i64 n) := by rw [hW2]; go_simp
  have x1 : W2.cell? ⟨w.heap.size, 1, none⟩ = some (.slice ao xss.length c) := by rw [hW2]; go_simp
  rw [sW2] at hm0
  rw [hW2] at hm0
  have HM0 := Lib.hid hm0
  clear hg h1 H1 hm0 hj
  go_enter Try.func92, Try.ntmps92
  go_wp2_with fail
  refine upon_put HM0.out int_law Try.underlying137 (by unfold maxLen; omega) (HK.out 0 (by omega)) ?_
  intro w1 hm1 hg1
  have hlt1 : w.heap.size + 1 + 1 ≤ w1.heap.size := by have := hg1.size; simpa using this
  have hF1 := FarAt.start xss
  have hq0 := World.ownsRow_lit (base := w.heap.size + 1) (size := 1) (e := 2) w1 #[.int .i64 0] 1 (by omega) (by unfold maxLen; omega) (by simp)
  rw [← hW2] at hg1
  have hb1 : Below (w.heap.size + 1) W2 w1 :=
    Below.grown ((Below.refl _ _).alloc (by rw [sW2]; omega) _) hg1 (by simp; try omega) (fun g hg => by cases hg; omega)
  have HI0 : Hid (PdAt W2 (w1.alloc (.cells #[.int .i64 0] 2)) (w.heap.size + 1) (w.heap.size + 1) (.slice (some ⟨w1.heap.size, 0, none⟩) 1 1) (pTo xss 0)) :=
    ⟨hq0, ⟨_, hm1.alloc _, hF1⟩, hb1.alloc (by omega) _⟩
  obtain ⟨mb, hmb⟩ : ∃ mb, mb = w.heap.size + 1 := ⟨_, rfl⟩
  rw [← hmb] at HI0
  rw [← hmb]
  have HMB := Lib.hid hmb
  have SW2 := Lib.hid sW2
  have BW2 := Lib.hid bW2
  clear hq0 hb1 hF1 hm1 hg1 hmb sW2 bW2 hW2
  go_wp2
  go_loopw [4, 5, 6] (fun q g i wr => ∃ k : Nat, k ≤ (pTo xss k).1.length ∧ i = .int .i64 k ∧ g = .int .i64 (gTo xss k : Nat) ∧ Hid (PdAt W2 wr mb mb q (pTo xss k))) (fun _ _ i _ => 1024 - (intOf i).toNat)
  case atStart => exact ⟨0, Nat.zero_le _, rfl, rfl, HI0.out⟩
  case round =>
    obtain ⟨k, hk, rfl, rfl, HI⟩ := hrel
    have hD := HD.out k
    rw [← pTo_fst] at hD
    have hsm := PSmall.to xss k
    have hlen := hD.le
    have HST := Lib.hid (fun h => pTo_succ (xss := xss) (i := k) h)
    have HEX := Lib.hid (fun (h : k < (pTo xss k).1.length) x hx => PExt.rowEnd (xss := xss) (x := x) h hx (by omega))
    have HEK := Lib.hid (fun (h : (pTo xss k).1.length = k) => HEND.out k h (by omega))
    have HGE : Hid (k ≤ (pTo xss k).1.length) := hk
    have HGL : Hid (gTo xss k ≤ 10) := by
      unfold Hid
      rw [gTo_eq xss k hk]
      have he := PSmall.to xss 1024
      have hd2 := (HD.out 1024).le
      rw [← pTo_fst] at hd2
      exact Nat.le_trans (gList_le (B := 10) (fun u => by have := he u; unfold pdF pEnd; omega) _) (Nat.le_refl _)
    obtain ⟨p, hp⟩ : ∃ p, p = pTo xss k := ⟨_, rfl⟩
    rw [← hp] at HST HEX HEK hk HI hD hsm hlen
    have HP := Lib.hid hp
    have HSM := Lib.hid hsm
    have HDD := Lib.hid hD
    clear hp hsm hD
    obtain ⟨au, mu, cu, rfl, HMu⟩ := own_shape HI.out.list
    obtain rfl : mu = p.1.length := HMu.out
    have q0 := Below.cellOf HI.out.below x0 (by have := HMB.out; omega)
    have q1 := Below.cellOf HI.out.below x1 (by have := HMB.out; omega)
    have lq := block_lt_of_cell q1
    clear HMu
    by_cases hlt : k < p.1.length
    · obtain ⟨lg, lc, e, hlc⟩ := own_some HI.out.list (by omega)
      injection e with e1 _ e3
      subst e1; subst e3
      have i1 := idx_of Try.underlying32 size1_int (ao := some ⟨lg, 0, none⟩) (b := lg) (o := 0) (n := p.1.length) (c := cu) (fun _ => rfl) hlt .i64
      rw [Nat.zero_add] at i1
      obtain ⟨z, hz⟩ : ∃ z, z = p.1.getD k 0 := ⟨_, rfl⟩
      have dz : wr.cell? ⟨lg, k, none⟩ = some (.int .i64 z) := by
        rw [HI.out.list.cellAt k (by omega), List.getElem?_map, List.getElem?_eq_getElem hlt, hz]
        simp [List.getD_eq_getElem?_getD, hlt]
      have hzm : Hid (z ∈ p.1) := by rw [hz]; exact mem_getD hlt
      have hzb := HDD.out.bd _ hzm.out
      have lz := block_lt_of_cell dz
      rw [← hz] at HST HEX
      have HZ := Lib.hid hz
      clear hz
      go_wp2
      go_loopw [4, 5, 29] (fun q g i wr => ∃ x : Nat, x ≤ xss.length ∧ i = .int .i64 x ∧ g = .int .i64 (gRow (pdF xss) xss z (gTo xss k) x : Nat) ∧ Hid (PdAt W2 wr mb mb q (pRow xss z p x))) (fun _ _ i _ => xss.length - (intOf i).toNat)
      case atStart => exact ⟨0, Nat.zero_le _, rfl, rfl, HI.out⟩
      case round =>
        obtain ⟨x, hx, rfl, rfl, HX⟩ := hrel
        have hex := HEX.out hlt x hx
        have hMd : Dist n (pRow xss z p x).1 := by
          rw [pRow_fst]
          exact Dist.row HG.out hzb HDD.out x hx
        have hlM := hMd.le
        have hsM := HSM.out.row (xss := xss) (z := z) x
        have hzM : Hid (z ∈ (pRow xss z p x).1) := (PExt.row xss z p 0 x (Nat.zero_le _)).mem hzm.out
        have HSX := Lib.hid (pRow_succ xss z p x)
        have hgr : gRow (pdF xss) xss z (gTo xss k) x ≤ 10 := by
          have he := PSmall.to xss 1024
          have hd2 := (HD.out 1024).le
          rw [← pTo_fst] at hd2
          exact gRow_le (B := 10) (fun u => by have := he u; unfold pdF pEnd; omega) HGL.out x
        have HGS := Lib.hid (gRow_succ (pdF xss) xss z (gTo xss k) x)
        have HEX2 := Lib.hid hex
        have HSN := Lib.hid (fun (h : x < xss.length) => HEX.out hlt (x + 1) h)
        have HSM2 := Lib.hid hsM
        obtain ⟨g, hgg⟩ : ∃ g, g = gRow (pdF xss) xss z (gTo xss k) x := ⟨_, rfl⟩
        rw [← hgg] at hgr HGS
        rw [← hgg]
        obtain ⟨M, hM⟩ : ∃ M, M = pRow xss z p x := ⟨_, rfl⟩
        rw [← hM] at HX hzM hlM HSX HEX2 HSM2
        have HGG := Lib.hid hgg
        have HMM := Lib.hid hM
        have hz2 := HSM2.out z
        obtain ⟨aq, mq, cq, rfl, HMq⟩ := own_shape HX.out.list
        obtain rfl : mq = M.1.length := HMq.out
        have r0 := Below.cellOf HX.out.below x0 (by have := HMB.out; omega)
        have r1 := Below.cellOf HX.out.below x1 (by have := HMB.out; omega)
        have lr := block_lt_of_cell r1
        clear hgg hM hMd hex hsM HMq
        by_cases hltx : x < xss.length
        · have i2 := idx_of Try.underlying22 size1_ints (c := c) A1 hltx .i64
          obtain ⟨rv, d2, hr1⟩ := HROW.out x hltx
          obtain ⟨ao2, p2, o2, c2, H2⟩ := hr1.open
          have hv2 := H2.val
          subst hv2
          have hrl := HRL.out x hltx
          have A2 := H2.adr
          rw [hrl] at A2 d2
          have hzn : z.toNat < n := by omega
          have d3 := H2.cell z.toNat (by rw [hrl]; exact hzn)
          have i3 := idx_at Try.underlying32 size1_int (c := c2) A2 hzn .i64 z (by omega)
          have hbw : Below w.heap.size w wr := BW2.out.trans (HX.out.below.mono (by have := HMB.out; omega))
          have e2 := below_cell hbw d2
          have e3 := below_cell hbw d3
          have htb := HG.out.toZ hzb hltx
          obtain ⟨t, ht⟩ : ∃ t, t = toZ xss z x := ⟨_, rfl⟩
          have e3' : wr.cell? ⟨p2, o2 + z.toNat, none⟩ = some (.int .i64 t) := by rw [ht]; exact e3
          rw [← ht] at HSX htb
          have le2 := block_lt_of_cell e2
          have le3 := block_lt_of_cell e3
          have HDT : Hid (dAt (pdF xss) xss z x = pdF xss z + 1 - pdF xss t) := by unfold Hid dAt; rw [ht]
          clear ht e3 d2 d3 hr1 H2 hrl A2
          have HSN2 := HSN.out hltx
          rw [HSX.out] at HSN2
          have HMT := Lib.hid (pAdd_mem M z t)
          have hfz : M.2 z = pdF xss z := (HEX2.out.far z hzM.out).symm
          have hft : pdF xss t = (pAdd M z t).2 t := HSN2.far t HMT.out
          have hst : PSmall (pAdd M z t) := HSM2.out.add z t
          have hlk := HX.out.look (s := z) (by omega) hzM.out
          have hl2 : Hid ((pAdd M z t).1.length ≤ 10) := by
            have h := Dist.row HG.out hzb HDD.out (x + 1) (by omega)
            rw [← pRow_fst, HSX.out] at h
            have := h.le
            unfold Hid; omega
          have hzT := hst z
          have htT := hst t
          have hl3' := hl2.out
          by_cases hin : t ∈ M.1
          · have hpa := pAdd_in (z := z) hin
            rw [hpa] at hft htT hl3'
            have hlt2 := HX.out.look (s := t) (by omega) hin
            obtain ⟨F, hmp, hfa⟩ := HX.out.map
            have hlook := hmp.lookOk int_law Try.underlying137 (zero_int wr) (key_int t (by omega))
            rw [hfa t, if_pos hin] at hlook
            have HDV := Lib.hid (fun W => divisor_any (g : Int) (M.2 z + 1 - M.2 t) W (by omega) (by omega))
            have HGN : Hid (Nat.gcd (g : Int).natAbs (M.2 z + 1 - M.2 t).natAbs = gRow (pdF xss) xss z (gTo xss k) (x + 1)) := by
              unfold Hid
              rw [HGS.out, HDT.out, hft, ← hfz, Int.natAbs_natCast]
            have HSY : Hid (pRow xss z p (x + 1) = M) := by unfold Hid; rw [HSX.out, hpa]
            clear hpa hfz hft hin hmp hfa HSN2 hst hzT
            go_wp2_with fail
            refine (HDV.out _).mono ?_
            rintro e w4 ⟨rfl, hb4⟩
            go_wp2
            go_roundw
            case rel => exact ⟨x + 1, by omega, by go_num, congrArg (fun (z : Nat) => Value.int .i64 (z : Int)) HGN.out, by rw [HSY.out]; exact HX.out.next hb4 (by have := HX.out.below.size; have := HMB.out; have := SW2.out; omega)⟩
            case measure => simp [intOf]; omega
          · have hp1 := pAdd_out (z := z) hin
            have hp2 := pAdd_outF (z := z) hin
            have hzt : z ≠ t := fun e => hin (e ▸ hzM.out)
            have hft2 : pdF xss t = M.2 z + 1 := by rw [hft, hp2]; simp
            obtain ⟨F, hmp, hfa⟩ := HX.out.map
            have hlook := hmp.lookOk int_law Try.underlying137 (zero_int wr) (key_int t (by omega))
            rw [hfa t, if_neg hin] at hlook
            have hl2' := hl2.out
            rw [hp1, List.length_append, List.length_singleton] at hl2'
            have hsum : IntKind.i64.wrap (M.2 z + 1) = M.2 z + 1 := IntWalk.i64_in _ (by omega)
            have HFA := Lib.hid (hfa.put (z := z) hin)
            have HFZ : Hid ((pAdd M z t).2 z = M.2 z) := by unfold Hid; rw [hp2]; simp [hzt]
            have HFT : Hid ((pAdd M z t).2 t = M.2 z + 1) := by unfold Hid; rw [hp2]; simp
            have HDV := Lib.hid (fun W => divisor_any (g : Int) 0 W (by omega) (by omega))
            have HGN : Hid (Nat.gcd (g : Int).natAbs (0 : Int).natAbs = gRow (pdF xss) xss z (gTo xss k) (x + 1)) := by
              unfold Hid
              rw [HGS.out, HDT.out, hft2, ← hfz, Int.natAbs_natCast, show M.2 z + 1 - (M.2 z + 1) = 0 by omega]
            have HSY : Hid (pRow xss z p (x + 1) = pAdd M z t) := HSX.out
            have HPL : Hid ((pAdd M z t).1 = M.1 ++ [t]) := hp1
            have HMP := Lib.hid hmp
            have HNE := Lib.hid (hmp.ne_own HX.out.list)
            have HLS := Lib.hid HX.out.list
            have hlow : mb ≤ wr.heap.size := by have := HX.out.below.size; have := HMB.out; have := SW2.out; omega
            have hmax : M.1.length < maxLen := by unfold maxLen; omega
            have HBE := Lib.hid HX.out.below
            have HZM := hzM
            clear hp1 hp2 hfz hft hft2 hin hmp hfa HSN2 hst hzT htT hl3' hzt
            go_wp2_with fail
            refine upon_put HMP.out int_law Try.underlying137 hmax (HK.out t (by omega)) ?_
            intro wu hmu hgu
            have HL2 := Lib.hid (HLS.out.kept hgu (by
              cases hv : (Value.slice aq M.1.length cq).ownBlock with
              | none => exact .inl rfl
              | some q => exact .inr fun e => HNE.out (by rw [hv, e])))
            have HMU := Lib.hid hmu
            have hB : Below mb W2 wu := Below.grown HBE.out hgu hlow (fun g hg => by cases hg; exact Nat.le_refl _)
            have HB2 := Lib.hid hB
            have hsu := hgu.size
            have r1u : wu.cell? ⟨w.heap.size, 1, none⟩ = some (.slice ao xss.length c) := Below.cellOf hB x1 (by have := HMB.out; omega)
            have HPD : ∀ v6 w6, w6.ownsRow mb 2 1 v6 (M.1.length + 1) (M.1.map (Value.int .i64) ++ [.int .i64 t]) → wu.grownBy w6 (Value.slice aq M.1.length cq).ownBlock → PdAt W2 w6 mb mb v6 (pAdd M z t) := fun v6 w6 ho hg => by
              refine ⟨?_, ⟨_, ?_, HFA.out⟩, ?_⟩
              · rw [HPL.out, List.length_append, List.length_singleton, List.map_append]; exact ho
              · rw [HPL.out, List.length_append, List.length_singleton]; exact HMU.out.kept hg (HMU.out.ne_own HL2.out)
              · exact Below.grown HB2.out hg (by have := HB2.out.size; have := HMB.out; have := SW2.out; omega) (fun g hg => (own_block HL2.out hg).1)
            have HPDD := Lib.hid HPD
            clear hmu hgu hB HPD
            go_wp2_with (at_builtin; refine wpList_push elem_int rfl (.tmp 51) (.tmp 53) rfl mb (v := .slice aq M.1.length cq) rfl HL2.out _ rfl rfl (by unfold maxLen; omega) (by omega) (by omega) ?_; intro v6 w6 ho6 hg6 hs6; obtain ⟨a6, m6, c6, rfl, HM6⟩ := own_shape ho6; have hpd := Lib.hid (HPDD.out _ _ ho6 hg6); have k1 := hpd.out.look (s := z) (by omega) (by rw [HPL.out]; exact List.mem_append_left _ HZM.out); have k2 := hpd.out.look (s := t) (by omega) (by rw [HPL.out]; simp); rw [HFZ.out] at k1; rw [HFT.out] at k2)
            with_reducible refine (HDV.out _).mono ?_
            rintro e w4 ⟨rfl, hb4⟩
            clear ho6 hg6 hs6
            go_wp2
            go_roundw
            case rel => exact ⟨x + 1, by omega, by go_num, congrArg (fun (z : Nat) => Value.int .i64 (z : Int)) (by have h := HGN.out; rw [Int.natAbs_natCast, Int.natAbs_zero, Nat.gcd_zero_right] at h; exact h), by rw [HSY.out]; exact hpd.out.next hb4 (by have := hpd.out.below.size; have := HMB.out; have := SW2.out; omega)⟩
            case measure => simp [intOf]; omega
        · obtain rfl : x = xss.length := by omega
          have hr := HST.out hlt
          have HR : Hid (pTo xss (k + 1) = M) := by unfold Hid; rw [hr, HMM.out]
          have hlm : Hid (k + 1 ≤ M.1.length) := by
            have h1 := (PExt.row xss z p 0 xss.length (Nat.zero_le _)).pre
            obtain ⟨m, e⟩ := h1
            have h2 : (pRow xss z p 0) = p := rfl
            rw [h2, ← HMM.out] at e
            unfold Hid; rw [e, List.length_append]; omega
          have HG2 : Hid (g = gTo xss (k + 1)) := by unfold Hid; rw [HGG.out, gTo, ← HP.out, ← HZ.out]
          clear hr
          go_wp2
          go_roundw
          case rel => exact ⟨k + 1, by rw [HR.out]; exact hlm.out, by go_num, by rw [HG2.out], by rw [HR.out]; exact HX.out⟩
          case measure => simp [intOf]; omega
    · have hke := HEK.out (by omega)
      have HE := Lib.hid hke
      have hbw : Below w.heap.size w wr := BW2.out.trans (HI.out.below.mono (by have := HMB.out; omega))
      clear hke
      go_wp2
      rw [HE.out]
      go_ret
      exact ⟨rfl, hbw⟩

end Go.Proofs.Ytlgnbbfhejjodaa
