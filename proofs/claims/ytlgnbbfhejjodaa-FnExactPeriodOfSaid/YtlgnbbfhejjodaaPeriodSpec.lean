/- l01Period, of the reference. -/
import Derived.Test.YtlgnbbfhejjodaaPeriodAt
import Derived.Test.YtlgnbbfhejjodaaReachSpec
import Derived.Test.YtlgnbbfhejjodaaHelp2
namespace Go.Proofs.Ytlgnbbfhejjodaa
set_option linter.unusedVariables false
set_option linter.unusedSimpArgs false
open Go.ChangeShapes Go.WideShapes Go.ChangeAt Go.RowKit

/-- what the first loops of l01Period keep: the table, the list -/
structure PfAt (W w : World) (gf n : Nat) (u : Value) (p : PState) : Prop where
  far : w.ownsRow gf 2 1 (.slice (some ⟨gf, 0, none⟩) n n) n ((farL n p.2).map (Value.int .i64))
  list : w.ownsRow gf 2 1 u p.1.length (p.1.map (Value.int .i64))
  ne : (Value.slice (some ⟨gf, 0, none⟩) n n).ownBlock = none ∨ (Value.slice (some ⟨gf, 0, none⟩) n n).ownBlock ≠ u.ownBlock
  below : Below gf W w

theorem PfAt.drewN {W w : World} {gf n : Nat} {u : Value} {p : PState} (h : PfAt W w gf n u p) (q : Nat) : PfAt W (w.drewN q) gf n u p :=
  ⟨own_below h.far (below_drewN' (Below.refl _ _) q), own_below h.list (below_drewN' (Below.refl _ _) q), h.ne, below_drewN' h.below q⟩
theorem PfAt.farAt {W w : World} {gf n : Nat} {u : Value} {p : PState} (h : PfAt W w gf n u p) {z : Int} (hz : 0 ≤ z ∧ z < n) : w.cell? ⟨gf, z.toNat, none⟩ = some (.int .i64 (p.2 z)) := by
  rw [h.far.cellAt z.toNat (by omega), List.getElem?_map]
  have := farL_get' (F := p.2) hz
  rw [List.getD_eq_getElem?_getD] at this
  have hl : z.toNat < (farL n p.2).length := by rw [farL_len]; omega
  rw [List.getElem?_eq_getElem hl] at this ⊢
  simp at this
  simp [this]
theorem PfAt.stored {W w : World} {gf n : Nat} {u : Value} {p : PState} (h : PfAt W w gf n u p) {z t y : Int} (ht : 0 ≤ t ∧ t < n) (hn : t ∉ p.1) (hy : y = p.2 z + 1) (hl : gf ≤ w.heap.size) :
    (w.setCell ⟨gf, t.toNat, none⟩ (.int .i64 y)).ownsRow gf 2 1 (.slice (some ⟨gf, 0, none⟩) n n) n ((farL n (pAdd p z t).2).map (Value.int .i64)) ∧
    (w.setCell ⟨gf, t.toNat, none⟩ (.int .i64 y)).ownsRow gf 2 1 u p.1.length (p.1.map (Value.int .i64)) ∧
    Below gf W (w.setCell ⟨gf, t.toNat, none⟩ (.int .i64 y)) := by
  obtain ⟨h1, h2⟩ := h.far.stored t.toNat (.int .i64 y)
  rw [farL_vals ht, hy, ← pAdd_outF hn] at h1
  rw [hy] at h2 ⊢
  refine ⟨h1, h.list.kept h2 ?_, Below.grown h.below h2 hl fun g hg => by cases hg; exact Nat.le_refl _⟩
  have := apart_symm h.ne
  exact this
theorem PfAt.put {W w1 w6 : World} {gf n : Nat} {u v6 : Value} {p : PState} {z t : Int} (hn : t ∉ p.1) (h1 : w1.ownsRow gf 2 1 (.slice (some ⟨gf, 0, none⟩) n n) n ((farL n (pAdd p z t).2).map (Value.int .i64)))
    (h2 : w1.ownsRow gf 2 1 u p.1.length (p.1.map (Value.int .i64))) (hb : Below gf W w1) (hne : (Value.slice (some ⟨gf, 0, none⟩) n n).ownBlock = none ∨ (Value.slice (some ⟨gf, 0, none⟩) n n).ownBlock ≠ u.ownBlock)
    (ho : w6.ownsRow gf 2 1 v6 (p.1.length + 1) (p.1.map (Value.int .i64) ++ [.int .i64 t])) (hg : w1.grownBy w6 u.ownBlock) (hs : SameOrNew u v6 w1.heap.size) (hl : gf ≤ w1.heap.size) : PfAt W w6 gf n v6 (pAdd p z t) := by
  obtain ⟨a1, a2⟩ := push_other hg hs h1 hne
  refine ⟨a1, ?_, a2, Below.grown hb hg hl fun g hg => (own_block h2 hg).1⟩
  rw [pAdd_out hn, List.length_append, List.length_singleton, List.map_append]; exact ho

theorem pEnd_small (xss : List (List Int)) : PSmall (pEnd xss) := PSmall.to xss 1024
theorem small_far {p : PState} (h : PSmall p) (m : Nat) (hd : p.1.length ≤ m) (u : Int) : 0 ≤ p.2 u ∧ p.2 u < (m : Int) := by
  have := h u
  omega
set_option maxRecDepth 100000 in
theorem pEnd_far (xss : List (List Int)) (m : Nat) (hd : (pEnd xss).1.length ≤ m) (u : Int) : 0 ≤ pdF xss u ∧ pdF xss u < (m : Int) := by
  have h := small_far (pEnd_small xss) m hd u
  unfold pdF
  exact h
/-- the gcd over the first s states -/
def gAll (xss : List (List Int)) (s : Nat) : Nat := gList (pdF xss) xss (allZ s)
theorem gList_allZ (F : Int → Int) (xss : List (List Int)) (s : Nat) : gList F xss (allZ (s + 1)) = gRow F xss (s : Int) (gList F xss (allZ s)) xss.length := by
  rw [show allZ (s + 1) = allZ s ++ [(s : Int)] by simp [allZ, List.range_succ], gList_snoc]
theorem gAll_succ (xss : List (List Int)) (s : Nat) : gAll xss (s + 1) = gRow (pdF xss) xss (s : Int) (gAll xss s) xss.length := gList_allZ (pdF xss) xss s

set_option maxRecDepth 100000 in
set_option maxHeartbeats 4000000 in
theorem l01Period_any (b : Nat) (v : Value) (xss : List (List Int)) (n : Nat) (w : World) (d0 : w.cell? ⟨b, 0, none⟩ = some (.int .i64 n)) (d1 : w.cell? ⟨b, 1, none⟩ = some v) (h1 : Rows2 w v xss) (hg : Good n n xss) (hj : (rcZs xss 0).length = n) :
    Calls Try.prog 91 #[.pointer (some ⟨b, 0, none⟩)] w (RetB (.int .i64 (pdG xss n)) w) := by
  have hn10 := hg.hi
  have hn1 := hg.lo
  obtain ⟨ao, p1, o1, c, H1⟩ := h1.open
  have hv1 := H1.val
  subst hv1
  have hm := H1.len
  have A1 := H1.adr
  have hl3 := hg.len3
  obtain ⟨i0, hi, hz0, hz1, hz2⟩ := info_parts info_int
  have HROW := Lib.hid (fun k (hk : k < xss.length) => H1.cell k hk)
  have HRL := Lib.hid (fun k (hk : k < xss.length) => hg.row hk)
  have HG := Lib.hid hg
  have HD := Lib.hid (fun i => rTo_dist hg (s := 0) ⟨by omega, by omega⟩ i)
  have HFB : Hid (∀ u, 0 ≤ pdF xss u ∧ pdF xss u < 10) := fun u => by
    have hd2 := (HD.out 1024).le
    have h := pEnd_far xss n (by rw [pEnd_fst]; exact hd2) u
    omega
  have HPG : Hid (gAll xss n = pdG xss n) := rfl
  have lb := block_lt_of_cell d0
  clear hg h1 H1 hj
  go_enter Try.func91, Try.ntmps91
  go_wp2_with (at_make; refine wpList_make_full _ rfl _ _ 32 rfl w.heap.size 2 i0 (.int .i64 0) 1 Try.underlying32 hi hz0 hz1 .i64 .i64 n n n rfl rfl (by first | rfl | simp) (by first | rfl | simp) (by rw [hz2]; omega) (by unfold maxLen; omega) (Nat.le_refl _) ?_; intro w1 hown hgr; have hsz1 := hgr.size)
  have hs0 : (madeCells (Value.cells (.int .i64 0)) (n * 1)).toList = (farL n fun _ => 0).map (Value.int .i64) := by
    show (madeCells #[Value.int .i64 0] (n * 1)).toList = _
    rw [toList_madeCells_one, farL_zero]; simp
  rw [hs0] at hown
  have hb1 : Below w.heap.size w w1 := Below.grown (Below.refl _ _) hgr (Nat.le_refl _) (by intro k h; cases h)
  have hlt1 : w.heap.size < w1.heap.size := (own_block hown rfl).2
  have hq0 := World.ownsRow_lit (base := w.heap.size) (size := 1) (e := 2) w1 #[.int .i64 0] 1 (by omega) (by unfold maxLen; omega) (by simp)
  have HI0 : Hid (PfAt w (w1.alloc (.cells #[.int .i64 0] 2)) w.heap.size n (.slice (some ⟨w1.heap.size, 0, none⟩) 1 1) (pTo xss 0)) :=
    ⟨hown.alloc _, hq0, by simp [Value.ownBlock]; omega, hb1.alloc (by omega) _⟩
  clear hq0 hb1 hown hs0 hgr
  go_loopw [4, 5] (fun q i wr => ∃ k : Nat, Hid (k ≤ (pTo xss k).1.length) ∧ i = .int .i64 k ∧ Hid (PfAt w wr w.heap.size n q (pTo xss k))) (fun _ i _ => 1024 - (intOf i).toNat)
  case atStart => exact ⟨0, Nat.zero_le _, rfl, HI0.out⟩
  case round =>
    obtain ⟨k, hk, rfl, HI⟩ := hrel
    have hD := HD.out k
    rw [← pTo_fst] at hD
    have hsm := PSmall.to xss k
    have hlen := hD.le
    have hkn := hk.out
    have HST := Lib.hid (fun h => pTo_succ (xss := xss) (i := k) h)
    have HEK := Lib.hid (fun (h : (pTo xss k).1.length ≤ k) => pEnd_stop h (by omega))
    obtain ⟨p, hp⟩ : ∃ p, p = pTo xss k := ⟨_, rfl⟩
    rw [← hp] at HST HI hD hsm hlen hkn HEK
    have HP := Lib.hid hp
    have HSM := Lib.hid hsm
    have HDD := Lib.hid hD
    clear hp hsm hD hk
    obtain ⟨au, mu, cu, rfl, HMu⟩ := own_shape HI.out.list
    obtain rfl : mu = p.1.length := HMu.out
    have q0 := below_cell HI.out.below d0
    have q1 := below_cell HI.out.below d1
    have lq := block_lt_of_cell q1
    clear HMu
    by_cases hlt : k < p.1.length
    · obtain ⟨z, hz⟩ : ∃ z, z = p.1.getD k 0 := ⟨_, rfl⟩
      have hzm : Hid (z ∈ p.1) := by rw [hz]; exact mem_getD hlt
      have hzb := HDD.out.bd _ hzm.out
      rw [← hz] at HST
      have HZ := Lib.hid hz
      clear hz
      go_wp2
      go_loopw [4, 6] (fun q i wr => ∃ x : Nat, x ≤ xss.length ∧ i = .int .i64 x ∧ Hid (PfAt w wr w.heap.size n q (pRow xss z p x))) (fun _ i _ => xss.length - (intOf i).toNat)
      case atStart => exact ⟨0, Nat.zero_le _, rfl, HI.out⟩
      case round =>
        obtain ⟨x, hx, rfl, HX⟩ := hrel
        have hMd : Dist n (pRow xss z p x).1 := by
          rw [pRow_fst]
          exact Dist.row HG.out hzb HDD.out x hx
        have hlM := hMd.le
        have hsM := HSM.out.row (xss := xss) (z := z) x
        have hlx : p.1.length ≤ (pRow xss z p x).1.length := by rw [pRow_fst]; exact rRow_len xss z p.1 x
        have hgx : (pRow xss z p x).1.getD k 0 = p.1.getD k 0 := by rw [pRow_fst]; exact rRow_get xss z p.1 x hlt
        rw [← HZ.out] at hgx
        have HSX := Lib.hid (pRow_succ xss z p x)
        have HSM2 := Lib.hid hsM
        obtain ⟨M, hM⟩ : ∃ M, M = pRow xss z p x := ⟨_, rfl⟩
        rw [← hM] at HX hlM HSX HSM2 hlx hgx
        have HMM := Lib.hid hM
        have hz2 := HSM2.out z
        obtain ⟨aq, mq, cq, rfl, HMq⟩ := own_shape HX.out.list
        obtain rfl : mq = M.1.length := HMq.out
        have r0 := below_cell HX.out.below d0
        have r1 := below_cell HX.out.below d1
        have lr := block_lt_of_cell r1
        clear hM hMd hsM HMq
        by_cases hltx : x < xss.length
        · have i2 := idx_of Try.underlying22 size1_ints (c := c) A1 hltx .i64
          obtain ⟨rv, d2, hr1⟩ := HROW.out x hltx
          obtain ⟨ao2, p2, o2, c2, H2⟩ := hr1.open
          have hv2 := H2.val
          subst hv2
          have hrl := HRL.out x hltx
          have A2 := H2.adr
          rw [hrl] at A2 d2
          have hzn : z.toNat < n := by omega
          have d3 := H2.cell z.toNat (by rw [hrl]; exact hzn)
          have i3 := idx_at Try.underlying32 size1_int (c := c2) A2 hzn .i64 z (by omega)
          have e2 := below_cell HX.out.below d2
          have e3 := below_cell HX.out.below d3
          have htb := HG.out.toZ hzb hltx
          have hkM : k < M.1.length := by omega
          obtain ⟨gu, cu2, hau, hcu2⟩ := own_some HX.out.list (by omega)
          injection hau with hau1 hau2 hau3
          subst hau1
          have d4 : wr.cell? ⟨gu, k, none⟩ = some (.int .i64 z) := by
            rw [HX.out.list.cellAt k (by omega), List.getElem?_map, List.getElem?_eq_getElem hkM, ← hgx]
            simp [List.getD_eq_getElem?_getD, hkM]
          have i4 := idx_of Try.underlying32 size1_int (ao := some ⟨gu, 0, none⟩) (b := gu) (o := 0) (n := M.1.length) (c := cq) (fun _ => rfl) hkM .i64
          rw [Nat.zero_add] at i4
          have le4 := block_lt_of_cell d4
          obtain ⟨t, ht⟩ : ∃ t, t = toZ xss z x := ⟨_, rfl⟩
          have e3' : wr.cell? ⟨p2, o2 + z.toNat, none⟩ = some (.int .i64 t) := by rw [ht]; exact e3
          rw [← ht] at HSX htb
          have le2 := block_lt_of_cell e2
          have le3 := block_lt_of_cell e3
          have HL2 : Hid (∀ (h : t ∉ M.1), M.1.length + 1 ≤ 10) := fun h => by
            have hh := Dist.row HG.out hzb HDD.out (x + 1) (by omega)
            rw [← pRow_fst, HSX.out] at hh
            have := hh.le
            rw [pAdd_out h, List.length_append, List.length_singleton] at this
            omega
          have HCT := fun (q : Nat) => l00Has_any _ M.1 t (wr.drewN q) ((ints_of_own HX.out.list).drewN q)
          clear ht e3 d2 d3 hr1 H2 hrl A2 hgx hau2 hau3
          by_cases hin : t ∈ M.1
          · rw [show M.1.contains t = true by simpa using hin] at HCT
            have HC2 := Lib.hid HCT
            have HSY : Hid (pRow xss z p (x + 1) = M) := by unfold Hid; rw [HSX.out, pAdd_in hin]
            clear hin HCT
            go_wp2
            go_quiet (fail)
            go_wp2_with fail
            refine (HC2.out _).mono ?_
            rintro e w4 ⟨rfl, rfl⟩
            go_wp2
            go_roundw
            case rel => exact ⟨x + 1, by omega, by go_num, by rw [HSY.out]; exact HX.out.drewN _⟩
            case measure => simp [intOf]; omega
          · rw [show M.1.contains t = false by simpa using hin] at HCT
            have HC2 := Lib.hid HCT
            have hl2 := HL2.out hin
            have HIN : Hid (t ∉ M.1) := hin
            have HSY : Hid (pRow xss z p (x + 1) = pAdd M z t) := HSX.out
            have i5 := idx_at Try.underlying32 size1_int (ao := some ⟨w.heap.size, 0, none⟩) (b := w.heap.size) (o := 0) (n := n) (c := n) (fun _ => rfl) hzn .i64 z (by omega)
            have i6 := idx_at Try.underlying32 size1_int (ao := some ⟨w.heap.size, 0, none⟩) (b := w.heap.size) (o := 0) (n := n) (c := n) (fun _ => rfl) (k := t.toNat) (by omega) .i64 t (by omega)
            rw [Nat.zero_add] at i5 i6
            have f1 := HX.out.farAt hzb
            have f2 := HX.out.farAt htb
            have lf := block_lt_of_cell f1
            have ff := HX.out.far.frozenAt t.toNat
            obtain ⟨y, hy⟩ : ∃ y, y = M.2 z + 1 := ⟨_, rfl⟩
            have hsum : IntKind.i64.wrap (M.2 z + 1) = y := by rw [hy]; exact IntWalk.i64_in _ (by omega)
            have lfs : w.heap.size < wr.heap.size := (own_block HX.out.far rfl).2
            have HPS := Lib.hid (fun q => (HX.out.drewN q).stored htb hin hy (by simp; omega))
            have HNE := Lib.hid HX.out.ne
            clear hin HCT hy
            go_wp2
            go_quiet (fail)
            go_wp2_with fail
            refine (HC2.out _).mono ?_
            rintro e w4 ⟨rfl, rfl⟩
            go_wp2_with (at_builtin; refine wpList_push elem_int rfl (.tmp 61) (.tmp 63) rfl w.heap.size (v := .slice (some ⟨gu, 0, none⟩) M.1.length cq) rfl (HPS.out _).2.1 _ (by first | rfl | (show Value.slice _ 1 1 = _; simp)) rfl (by unfold maxLen; omega) (by omega) (by simp; omega) ?_; intro v6 w6 ho6 hg6 hs6)
            have hpd := Lib.hid (PfAt.put HIN.out (HPS.out _).1 (HPS.out _).2.1 (HPS.out _).2.2 HNE.out ho6 hg6 hs6 (by simp; omega))
            clear ho6 hg6 hs6
            go_wp2
            go_roundw
            case rel => exact ⟨x + 1, by omega, by go_num, by rw [HSY.out]; exact hpd.out⟩
            case measure => simp [intOf]; omega
        · obtain rfl : x = xss.length := by omega
          have hr := HST.out hlt
          have HR : Hid (pTo xss (k + 1) = M) := by unfold Hid; rw [hr, HMM.out]
          have hlm : Hid (k + 1 ≤ M.1.length) := by unfold Hid; omega
          clear hr
          go_wp2
          go_roundw
          case rel => exact ⟨k + 1, by rw [HR.out]; exact hlm.out, by go_num, by rw [HR.out]; exact HX.out⟩
          case measure => simp [intOf]; omega
    · have hpe := HEK.out (by omega)
      have HFAR : Hid (∀ z : Int, 0 ≤ z ∧ z < n → wr.cell? ⟨w.heap.size, z.toNat, none⟩ = some (.int .i64 (pdF xss z))) := fun z hz => by
        have := HI.out.farAt hz
        rw [hpe] at this
        exact this
      have hbw := HI.out.below
      have HBW := Lib.hid hbw
      have lfar : w.heap.size < wr.heap.size := (own_block HI.out.far rfl).2
      clear hpe HST HEK
      obtain ⟨wo, rfl⟩ : ∃ wo : World, wo = wr := ⟨_, rfl⟩
      go_wp2
      go_loopw [8, 9] (fun g i wr => ∃ s : Nat, s ≤ n ∧ i = .int .i64 s ∧ g = .int .i64 (gAll xss s : Nat) ∧ Below wo.heap.size wo wr) (fun _ i _ => n - (intOf i).toNat)
      case atStart => exact ⟨0, Nat.zero_le _, rfl, rfl, Below.refl _ _⟩
      case round =>
        obtain ⟨s, hs, rfl, rfl, hb⟩ := hrel
        have r0 := below_cell hb q0
        have r1 := below_cell hb q1
        have lr := block_lt_of_cell r1
        by_cases hlts : s < n
        · have HGS := Lib.hid (gAll_succ xss s)
          have HGB : Hid (gAll xss s ≤ 10) := gList_le (B := 10) (fun u => by have := HFB.out u; omega) _
          generalize gAll xss s = G0 at HGS HGB ⊢
          obtain ⟨wp, rfl⟩ : ∃ wp : World, wp = wr := ⟨_, rfl⟩
          go_wp2
          go_loopw [8, 10] (fun g i wr => ∃ x : Nat, x ≤ xss.length ∧ i = .int .i64 x ∧ g = .int .i64 (gRow (pdF xss) xss (s : Int) G0 x : Nat) ∧ Below wo.heap.size wo wr) (fun _ i _ => xss.length - (intOf i).toNat)
          case atStart => exact ⟨0, Nat.zero_le _, rfl, rfl, hb⟩
          case round =>
            obtain ⟨x, hx, rfl, rfl, hb2⟩ := hrel
            have s0 := below_cell hb2 q0
            have s1 := below_cell hb2 q1
            have ls := block_lt_of_cell s1
            have HGX := Lib.hid (gRow_succ (pdF xss) xss (s : Int) G0 x)
            have hgx : gRow (pdF xss) xss (s : Int) G0 x ≤ 10 := gRow_le (B := 10) (fun u => by have := HFB.out u; omega) HGB.out x
            generalize hgg : gRow (pdF xss) xss (s : Int) G0 x = G at HGX hgx ⊢
            have HGG := Lib.hid hgg
            clear hgg
            by_cases hltx : x < xss.length
            · have i2 := idx_of Try.underlying22 size1_ints (c := c) A1 hltx .i64
              obtain ⟨rv, d2, hr1⟩ := HROW.out x hltx
              obtain ⟨ao2, p2, o2, c2, H2⟩ := hr1.open
              have hv2 := H2.val
              subst hv2
              have hrl := HRL.out x hltx
              have A2 := H2.adr
              rw [hrl] at A2 d2
              have d3 := H2.cell s (by rw [hrl]; exact hlts)
              have i3 := idx_of Try.underlying32 size1_int (c := c2) A2 hlts .i64
              have hbx := below_trans HBW.out hb2
              have e2 := below_cell hbx d2
              have e3 := below_cell hbx d3
              have htb := HG.out.toZ (z := (s : Int)) ⟨by omega, by omega⟩ hltx
              have HDA : Hid (dAt (pdF xss) xss (s : Int) x = pdF xss (s : Int) + 1 - pdF xss (toZ xss (s : Int) x)) := rfl
              have f1 := below_cell hb2 (HFAR.out (s : Int) ⟨by omega, by omega⟩)
              rw [Int.toNat_natCast] at f1
              obtain ⟨t, ht⟩ : ∃ t, t = toZ xss (s : Int) x := ⟨_, rfl⟩
              have e3' : wr.cell? ⟨p2, o2 + s, none⟩ = some (.int .i64 t) := by rw [ht]; exact e3
              rw [← ht] at htb HDA
              have f2 := below_cell hb2 (HFAR.out t htb)
              have le2 := block_lt_of_cell e2
              have le3 := block_lt_of_cell e3
              have lf := block_lt_of_cell f1
              have i5 := idx_of Try.underlying32 size1_int (ao := some ⟨w.heap.size, 0, none⟩) (b := w.heap.size) (o := 0) (n := n) (c := n) (fun _ => rfl) hlts .i64
              have i6 := idx_at Try.underlying32 size1_int (ao := some ⟨w.heap.size, 0, none⟩) (b := w.heap.size) (o := 0) (n := n) (c := n) (fun _ => rfl) (k := t.toNat) (by omega) .i64 t (by omega)
              rw [Nat.zero_add] at i5 i6
              have hB1 := HFB.out (s : Int)
              have hB2 := HFB.out t
              clear ht e3 d2 d3 hr1 H2 hrl A2
              generalize pdF xss (s : Int) = F1 at HDA f1 hB1
              generalize pdF xss t = F2 at HDA f2 hB2
              obtain ⟨y, hy⟩ : ∃ y, y = F1 + 1 := ⟨_, rfl⟩
              obtain ⟨d, hd⟩ : ∃ d, d = y - F2 := ⟨_, rfl⟩
              have hsum : IntKind.i64.wrap (F1 + 1) = y := by rw [hy]; exact IntWalk.i64_in _ (by omega)
              have hsub : IntKind.i64.wrap (y - F2) = d := by rw [hd]; exact IntWalk.i64_in _ (by omega)
              have HDD : Hid (dAt (pdF xss) xss (s : Int) x = d) := by unfold Hid; rw [HDA.out, hd, hy]
              obtain ⟨D, hDD⟩ : ∃ D, D = d.natAbs := ⟨_, rfl⟩
              have HGN : Hid (Nat.gcd G D = gRow (pdF xss) xss (s : Int) G0 (x + 1)) := by unfold Hid; rw [HGX.out, HDD.out, hDD]
              have HGC : Hid (∀ (d' : Int), d' = (D : Int) → ∀ W, Calls Try.prog 128 #[.int .i64 (G : Int), .int .i64 d'] W (RetB (.int .i64 (Nat.gcd G D : Nat)) W)) := fun d' h W => by
                rw [h]; exact l01Gcd_any G D W (by omega) (by omega)
              by_cases hneg : d < 0
              · have hwn : IntKind.i64.wrap (-d) = (D : Int) := by rw [IntWalk.i64_in _ (by omega)]; omega
                clear hy hd hDD
                go_wp2
                go_quiet (fail)
                go_wp2_with fail
                refine (HGC.out _ rfl _).mono ?_
                rintro e w4 ⟨rfl, hb4⟩
                go_wp2
                go_roundw
                case rel => exact ⟨x + 1, by omega, by go_num, congrArg (fun (z : Nat) => Value.int .i64 (z : Int)) HGN.out, below_trans hb2 (below_trans (below_drewN' (Below.refl _ _) _) hb4)⟩
                case measure => simp [intOf]; omega
              · have hdD : Hid (d = (D : Int)) := by unfold Hid; omega
                have hdl : decide (d < 0) = false := decide_eq_false hneg
                clear hy hd hDD hneg
                go_wp2
                go_quiet (fail)
                go_wp2_with fail
                refine (HGC.out _ hdD.out _).mono ?_
                rintro e w4 ⟨rfl, hb4⟩
                go_wp2
                go_roundw
                case rel => exact ⟨x + 1, by omega, by go_num, congrArg (fun (z : Nat) => Value.int .i64 (z : Int)) HGN.out, below_trans hb2 (below_trans (below_drewN' (Below.refl _ _) _) hb4)⟩
                case measure => simp [intOf]; omega
            · obtain rfl : x = xss.length := by omega
              have HGE : Hid (G = gAll xss (s + 1)) := by unfold Hid; rw [HGS.out, HGG.out]
              go_wp2
              go_roundw
              case rel => exact ⟨s + 1, by omega, by go_num, congrArg (fun (z : Nat) => Value.int .i64 (z : Int)) HGE.out, hb2⟩
              case measure => simp [intOf]; omega
        · obtain rfl : s = n := by omega
          have hbb := below_trans HBW.out hb
          have HE := Lib.hid HPG.out
          go_wp2
          rw [HE.out]
          go_ret
          exact ⟨rfl, hbb⟩

end Go.Proofs.Ytlgnbbfhejjodaa
