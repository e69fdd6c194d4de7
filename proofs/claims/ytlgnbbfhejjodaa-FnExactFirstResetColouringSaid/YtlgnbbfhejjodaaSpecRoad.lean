/- l05Ok, ValidRoads, of the reference. -/
import Derived.Test.YtlgnbbfhejjodaaSpecOk
import Derived.Deep.RegionHeld3
namespace Go.Proofs.Ytlgnbbfhejjodaa
set_option linter.unusedVariables false
set_option linter.unusedSimpArgs false
open Go.ChangeShapes Go.WideShapes Go.ChangeAt Go.RowKit

def stepOk (zs : List Int) (t : Int) (k : Nat) : Bool := inB (zs.getD k 0) 0 (t - 1) && (k == 0 || decide (zs.getD (k - 1) 0 ≤ zs.getD k 0))
def sortedB (zs : List Int) : Bool := (List.range zs.length).all fun k => k == 0 || decide (zs.getD (k - 1) 0 ≤ zs.getD k 0)
/-- is a list of roads right? -/
def roadB (L : Nat) (t : Int) (zs : List Int) : Bool := decide (zs.length = L) && (allIn zs 0 (t - 1) && sortedB zs)
def roadsB (t : Int) (xss : List (List Int)) : Bool := xss.all (roadB (xss.getD 0 []).length t)
/-- are roads valid? -/
def validR (t : Int) (xss : List (List Int)) : Bool := inB t 1 7 && (decide ((xss.length : Int) = t) && (inB (xss.getD 0 []).length 1 3 && roadsB t xss))

theorem allIn_range (zs : List Int) (lo hi : Int) : allIn zs lo hi = (List.range zs.length).all fun k => inB (zs.getD k 0) lo hi := by
  rw [Bool.eq_iff_iff]
  unfold allIn
  rw [List.all_eq_true, List.all_eq_true]
  constructor
  · intro h k hk
    have hk' : k < zs.length := by simpa using hk
    have := h zs[k] (List.getElem_mem hk')
    simpa [List.getD_eq_getElem?_getD, hk'] using this
  · intro h z hz
    obtain ⟨k, hk, rfl⟩ := List.getElem_of_mem hz
    have := h k (by simpa using hk)
    simpa [List.getD_eq_getElem?_getD, hk] using this
theorem steps_all (zs : List Int) (t : Int) : ((List.range zs.length).all fun k => stepOk zs t k) = (allIn zs 0 (t - 1) && sortedB zs) := by
  rw [allIn_range, Bool.eq_iff_iff]
  unfold sortedB stepOk
  simp only [List.all_eq_true, Bool.and_eq_true]
  constructor
  · intro h; exact ⟨fun k hk => (h k hk).1, fun k hk => (h k hk).2⟩
  · intro h k hk; exact ⟨h.1 k hk, h.2 k hk⟩
theorem range_all_succ (q : Nat → Bool) (k : Nat) : (List.range (k + 1)).all q = ((List.range k).all q && q k) := by rw [List.range_succ, List.all_append]; simp
theorem range_all_no {q : Nat → Bool} {k n : Nat} (h : k < n) (hq : q k = false) : (List.range n).all q = false := by
  rw [List.all_eq_false]; exact ⟨k, by simpa using h, by simpa using hq⟩

theorem roadB_of (L : Nat) (t : Int) (zs : List Int) (hl : zs.length = L) : roadB L t zs = (List.range zs.length).all fun k => stepOk zs t k := by
  unfold roadB; rw [steps_all]; simp [hl]
theorem roadsB_take (L : Nat) (t : Int) (xss : List (List Int)) (k : Nat) (h : k < xss.length) : (xss.take (k + 1)).all (roadB L t) = ((xss.take k).all (roadB L t) && roadB L t (xss.getD k [])) := by
  rw [List.take_succ_eq_append_getElem h, List.all_append]
  simp [List.getD_eq_getElem?_getD, h]
theorem roadsB_no {L : Nat} {t : Int} {xss : List (List Int)} {k : Nat} (h : k < xss.length) (hb : roadB L t (xss.getD k []) = false) : xss.all (roadB L t) = false := by
  rw [List.all_eq_false]
  refine ⟨xss[k], List.getElem_mem h, ?_⟩
  simp only [List.getD_eq_getElem?_getD, List.getElem?_eq_getElem h, Option.getD_some] at hb
  rw [hb]; simp

set_option maxRecDepth 100000 in
set_option maxHeartbeats 1000000 in
theorem l05Ok_any (b o : Nat) (t : Int) (v : Value) (xss : List (List Int)) (w : World) (d0 : w.cell? ⟨b, o, none⟩ = some (.int .i64 t)) (d1 : w.cell? ⟨b, o + 1, none⟩ = some v) (h1 : Rows2 w v xss) :
    Calls Try.prog 72 #[.pointer (some ⟨b, o, none⟩)] w (RetQ (.bool (validR t xss)) w) := by
  obtain ⟨ao1, p1, o1, c1, H1⟩ := h1.open
  have hv := H1.val
  subst hv
  have hm := H1.len
  clear h1
  have HC := Lib.hid (fun n => l00In_any t 1 7 (w.drewN n))
  cases hA : inB t 1 7
  · rw [show validR t xss = false by simp [validR, hA]]
    rw [hA] at HC
    clear hA
    go_enter Try.func72, Try.ntmps72
    go_wp2
    go_quiet ((go_at_call 78; exact Calls.quiet_of_same' (HC.out _)))
    go_wp2
    go_ret
    exact ⟨rfl, (Qu.refl _).drewN _⟩
  obtain ⟨hs1, hs2⟩ := inB_true.1 hA
  rw [hA] at HC
  by_cases hlen : (xss.length : Int) = t
  · have hpos : 0 < xss.length := by omega
    have hb1 : ((xss.length : Int) != t) = false := by simp [hlen]
    obtain ⟨r0, e0, hr0⟩ := H1.cell 0 hpos
    obtain ⟨ao0, p0, o0, c0, H0⟩ := hr0.open
    have hv0 := H0.val
    subst hv0
    have hm0 := H0.len
    have i0 := idx_at Try.underlying22 size1_ints (c := c1) H1.adr hpos .i64 0 rfl
    rw [Nat.add_zero] at e0 i0
    obtain ⟨L, hL⟩ : ∃ L, L = (xss.getD 0 []).length := ⟨_, rfl⟩
    rw [← hL] at e0 hm0
    have HC2 := Lib.hid (fun n => l00In_any L 1 3 (w.drewN n))
    have ev : validR t xss = (inB L 1 3 && xss.all (roadB L t)) := by unfold validR roadsB; rw [hA, decide_eq_true hlen, ← hL]; simp
    have HL := Lib.hid hL
    have HLEN := Lib.hid hlen
    clear hL hA hlen H0 hr0
    cases hB : inB L 1 3
    · rw [ev, hB, Bool.false_and]
      rw [hB] at HC2
      clear hB ev
      go_enter Try.func72, Try.ntmps72
      go_wp2
      go_quiet ((first | (go_at_call_of 78 (Value.int IntKind.i64 t); exact Calls.quiet_of_same' (HC.out _)) | (go_at_call 78; exact Calls.quiet_of_same' (HC2.out _))))
      go_wp2
      go_ret
      exact ⟨rfl, (Qu.refl _).drewN _⟩
    rw [ev, hB, Bool.true_and]
    rw [hB] at HC2
    clear hB ev
    go_enter Try.func72, Try.ntmps72
    go_wp2
    go_quiet ((first | (go_at_call_of 78 (Value.int IntKind.i64 t); exact Calls.quiet_of_same' (HC.out _)) | (go_at_call 78; exact Calls.quiet_of_same' (HC2.out _))))
    go_wp2
    go_loopw [3] (fun i wr => ∃ k : Nat, k ≤ xss.length ∧ i = .int .i64 k ∧ Hid ((xss.take k).all (roadB L t) = true) ∧ Qu w wr) (fun i _ => xss.length - (intOf i).toNat)
    case atStart => exact ⟨0, Nat.zero_le _, rfl, rfl, (Qu.refl _).drewN _⟩
    case round =>
      obtain ⟨k, hk, rfl, hall, hq⟩ := hrel
      obtain ⟨wo, rfl⟩ : ∃ wo : World, wo = wr := ⟨_, rfl⟩
      replace d0 := hq.cell d0
      replace d1 := hq.cell d1
      replace e0 := hq.cell e0
      by_cases hlt : k < xss.length
      · have i1 := idx_of Try.underlying22 size1_ints (c := c1) H1.adr hlt .i64
        obtain ⟨r1, d2, hr1⟩ := H1.cell k hlt
        replace d2 := hq.cell d2
        replace hr1 := hq.ints hr1
        obtain ⟨ao2, p2, o2, c2, H2⟩ := hr1.open
        have hv2 := H2.val
        subst hv2
        have hm2 := H2.len
        have HT := Lib.hid (roadsB_take L t xss k hlt)
        have HNO := Lib.hid (fun h => roadsB_no (L := L) (t := t) (k := k) hlt h)
        obtain ⟨zs, hzs⟩ : ∃ zs, zs = xss.getD k [] := ⟨_, rfl⟩
        rw [← hzs] at HT HNO d2 hr1 H2 hm2
        clear hzs hr1
        by_cases hl : zs.length = L
        · have hb : ((zs.length : Int) != L) = false := by simp [hl]
          have HR := Lib.hid (roadB_of L t zs hl)
          clear hl
          go_wp2
          go_quiet (fail)
          go_wp2
          go_loopw [4] (fun i wr => ∃ j : Nat, j ≤ zs.length ∧ i = .int .i64 j ∧ Hid (((List.range j).all fun k => stepOk zs t k) = true) ∧ Qu wo wr) (fun i _ => zs.length - (intOf i).toNat)
          case atStart => exact ⟨0, Nat.zero_le _, rfl, rfl, (Qu.refl _).drewN _⟩
          case round =>
            obtain ⟨j, hj, rfl, hin, hq2⟩ := hrel
            replace d0 := hq2.cell d0
            replace d1 := hq2.cell d1
            replace d2 := hq2.cell d2
            have hq3 := Lib.hid (hq.trans hq2)
            by_cases hlt2 : j < zs.length
            · have i2 := idx_of Try.underlying32 size1_int (c := c2) H2.adr hlt2 .i64
              obtain ⟨z, hz, d3⟩ := H2.at hlt2
              replace d3 := hq2.cell d3
              have HT2 := Lib.hid (range_all_succ (fun k => stepOk zs t k) j)
              have HN2 := Lib.hid (fun h => range_all_no (q := fun k => stepOk zs t k) hlt2 h)
              have HZ := Lib.hid hz
              have HI0 := fun n => l00In_any z 0 (t - 1) (wr.drewN n)
              cases hb2 : inB z 0 (t - 1)
              · rw [hb2] at HI0
                have HI := Lib.hid HI0
                have hno : stepOk zs t j = false := by unfold stepOk; rw [HZ.out, hb2]; rfl
                have HS := Lib.hid hno
                clear hb2 hz HI0 hno
                have hwr := IntWalk.i64_in (t - 1) (by omega)
                go_wp2
                go_quiet ((go_at_call 78; exact Calls.quiet_of_same' (HI.out _)))
                clear hwr
                go_wp2
                go_ret
                exact ⟨ret_bool (HNO.out (by rw [HR.out]; exact HN2.out HS.out)).symm, (hq3.out).drewN _⟩
              · rw [hb2] at HI0
                have HI := Lib.hid HI0
                have HB2 := Lib.hid hb2
                clear hb2 hz HI0
                rcases Nat.eq_zero_or_pos j with hj0 | hj0
                · subst hj0
                  have hS : stepOk zs t 0 = true := by unfold stepOk; rw [HZ.out, HB2.out]; rfl
                  have HS := Lib.hid hS
                  have i4 := idx_at Try.underlying32 size1_int (c := c2) H2.adr hlt2 .i64 0 rfl
                  rw [Nat.add_zero] at d3 i4
                  clear hS i2
                  rw [show Value.int IntKind.i64 ((0 : Nat) : Int) = .int .i64 0 from rfl]
                  have hwr := IntWalk.i64_in (t - 1) (by omega)
                  go_wp2
                  go_quiet ((go_at_call 78; exact Calls.quiet_of_same' (HI.out _)))
                  clear hwr
                  go_wp2
                  go_roundw
                  case rel => exact ⟨0 + 1, by omega, by go_num, by unfold Hid; rw [HT2.out, hin.out, HS.out]; rfl, hq2.drewN _⟩
                  case measure => simp [intOf]; omega
                · have i3 := idx_at Try.underlying32 size1_int (c := c2) H2.adr (k := j - 1) (by omega) .i64 ((j : Int) - 1) (by omega)
                  obtain ⟨y, hy, d4⟩ := H2.at (k := j - 1) (by omega)
                  replace d4 := hq2.cell d4
                  have HY := Lib.hid hy
                  have hgt : decide ((0 : Int) < (j : Int)) = true := by simp; omega
                  clear hy
                  by_cases hyz : z < y
                  · have hno : stepOk zs t j = false := by
                      unfold stepOk; rw [HZ.out, HY.out, HB2.out]
                      have : (j == 0) = false := by simp; omega
                      rw [this]; simp; omega
                    have HS := Lib.hid hno
                    have hd : decide (z < y) = true := by simp [hyz]
                    clear hno hyz
                    have hwr := IntWalk.i64_in (t - 1) (by omega)
                    have hwj := IntWalk.i64_in ((j : Int) - 1) (by omega)
                    go_wp2
                    go_quiet ((go_at_call 78; exact Calls.quiet_of_same' (HI.out _)))
                    clear hwr hwj
                    go_wp2
                    go_ret
                    exact ⟨ret_bool (HNO.out (by rw [HR.out]; exact HN2.out HS.out)).symm, (hq3.out).drewN _⟩
                  · have hS : stepOk zs t j = true := by
                      unfold stepOk; rw [HZ.out, HY.out, HB2.out]
                      simp; right; omega
                    have HS := Lib.hid hS
                    have hd : decide (z < y) = false := by simp; omega
                    clear hS hyz
                    have hwr := IntWalk.i64_in (t - 1) (by omega)
                    have hwj := IntWalk.i64_in ((j : Int) - 1) (by omega)
                    go_wp2
                    go_quiet ((go_at_call 78; exact Calls.quiet_of_same' (HI.out _)))
                    clear hwr hwj
                    go_wp2
                    go_roundw
                    case rel => exact ⟨j + 1, by omega, by go_num, by unfold Hid; rw [HT2.out, hin.out, HS.out]; rfl, hq2.drewN _⟩
                    case measure => simp [intOf]; omega
            · have hin2 : roadB L t zs = true := by have := hin.out; rw [show j = zs.length by omega] at this; rw [HR.out]; exact this
              have HIN := Lib.hid hin2
              clear hin2
              go_wp2
              go_roundw
              case rel => exact ⟨k + 1, by omega, by go_num, by unfold Hid; rw [HT.out, hall.out, HIN.out]; rfl, hq3.out⟩
              case measure => simp [intOf]; omega
        · have hb : ((zs.length : Int) != L) = true := by simp; omega
          have HR : Hid (roadB L t zs = false) := by unfold Hid roadB; simp [hl]
          clear hl
          go_wp2
          go_quiet (fail)
          go_wp2
          go_ret
          exact ⟨ret_bool (HNO.out HR.out).symm, hq.drewN _⟩
      · have hall2 : xss.all (roadB L t) = true := by have := hall.out; rwa [List.take_of_length_le (by omega)] at this
        have HA := Lib.hid hall2
        clear hall2
        go_wp2
        go_ret
        exact ⟨ret_bool HA.out.symm, hq⟩
  · have hb1 : ((xss.length : Int) != t) = true := by simp [hlen]
    rw [show validR t xss = false by unfold validR; rw [hA, decide_eq_false hlen]; rfl]
    clear hlen hA
    go_enter Try.func72, Try.ntmps72
    go_wp2
    go_quiet ((go_at_call 78; exact Calls.quiet_of_same' (HC.out _)))
    go_wp2
    go_ret
    exact ⟨rfl, (Qu.refl _).drewN _⟩


end Go.Proofs.Ytlgnbbfhejjodaa
