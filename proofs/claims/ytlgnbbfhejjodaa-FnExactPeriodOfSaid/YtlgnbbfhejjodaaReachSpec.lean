/- l01Reached, of the reference. -/
import Derived.Test.YtlgnbbfhejjodaaReachLaw
import Derived.Test.YtlgnbbfhejjodaaTail
import Derived.Test.YtlgnbbfhejjodaaBits
namespace Go.Proofs.Ytlgnbbfhejjodaa
set_option linter.unusedVariables false
set_option linter.unusedSimpArgs false
open Go.ChangeShapes Go.WideShapes Go.ChangeAt Go.RowKit

set_option maxHeartbeats 1000000 in
theorem l00Has_any (v : Value) (zs : List Int) (z : Int) (w : World) (h1 : Ints w v zs) :
    Calls Try.prog 127 #[v, .int .i64 z] w fun e w' => e = .returned (.bool (zs.contains z)) ∧ w' = w := by
  obtain ⟨ao, p1, o1, c, H1⟩ := h1.open
  have hv1 := H1.val
  subst hv1
  have hm := H1.len
  have A1 := H1.adr
  have HZ := Lib.hid (fun k (hk : k < zs.length) => H1.at hk)
  obtain ⟨bb, hbb⟩ : ∃ bb, bb = zs.contains z := ⟨_, rfl⟩
  rw [← hbb]
  have HB := Lib.hid hbb
  clear h1 H1 hbb
  go_enter Try.func127, Try.ntmps127
  go_wp2
  go_loop [5] (fun i => ∃ k : Nat, k ≤ zs.length ∧ i = .int .i64 k ∧ Hid (∀ j, j < k → zs.getD j 0 ≠ z)) (fun i => zs.length - (intOf i).toNat)
  case atStart => exact ⟨0, Nat.zero_le _, rfl, fun j hj => absurd hj (Nat.not_lt_zero _)⟩
  case round =>
    obtain ⟨k, hk, rfl, HN⟩ := hrel
    by_cases hlt : k < zs.length
    · have i1 := idx_of Try.underlying32 size1_int (c := c) A1 hlt .i64
      obtain ⟨y, hy, d⟩ := HZ.out k hlt
      have HY := Lib.hid hy
      clear hy
      by_cases hyz : y = z
      · have hb : bb = true := by rw [HB.out, List.contains_iff_mem, ← hyz, ← HY.out]; exact mem_getD hlt
        have hbe : (y == z) = true := by simp [hyz]
        subst hb
        clear hyz
        go_wp2
        go_ret
        exact ⟨rfl, rfl⟩
      · have HN2 : Hid (∀ j, j < k + 1 → zs.getD j 0 ≠ z) := fun j hj => by
          rcases Nat.lt_or_ge j k with h | h
          · exact HN.out j h
          · obtain rfl : j = k := by omega
            rw [HY.out]; exact hyz
        have hbe : (y == z) = false := by simp [hyz]
        clear hyz
        go_wp2
        go_round
        case rel => exact ⟨k + 1, by omega, by go_num, HN2.out⟩
        case measure => simp [intOf]; omega
        --exact ⟨⟨k + 1, by omega, by go_num, HN2.out⟩, by simp [intOf]; omega⟩
    · have hb : bb = false := by
        rw [HB.out]
        rw [Bool.eq_false_iff]
        intro h
        obtain ⟨j, hj, e⟩ := List.getElem_of_mem (List.contains_iff_mem.1 h)
        exact HN.out j (by omega) (by simp [List.getD_eq_getElem?_getD, hj, e])
      subst hb
      go_wp2
      go_ret
      exact ⟨rfl, rfl⟩

def lenOf : Value → Nat
  | .slice _ m _ => m
  | _ => 0

set_option maxRecDepth 100000 in
set_option maxHeartbeats 4000000 in
theorem l01Reached_any (b : Nat) (v : Value) (xss : List (List Int)) (n : Nat) (s : Int) (w : World) (d0 : w.cell? ⟨b, 0, none⟩ = some (.int .i64 n)) (d1 : w.cell? ⟨b, 1, none⟩ = some v) (h1 : Rows2 w v xss) (hg : Good n n xss) (hs : 0 ≤ s ∧ s < n) :
    Calls Try.prog 125 #[.pointer (some ⟨b, 0, none⟩), .int .i64 s] w (NewInts (rcZs xss s) w) := by
  have hn10 := hg.hi
  obtain ⟨ao, p1, o1, c, H1⟩ := h1.open
  have hv1 := H1.val
  subst hv1
  have hm := H1.len
  have A1 := H1.adr
  have hl3 := hg.len3
  have HROW := Lib.hid (fun k (hk : k < xss.length) => H1.cell k hk)
  have HRL := Lib.hid (fun k (hk : k < xss.length) => hg.row hk)
  have HDI := Lib.hid (fun i => rTo_dist hg hs i)
  have HG := Lib.hid hg
  have HU0 : Hid ((w.alloc (.cells #[.int .i64 s] 2)).ownsRow w.heap.size 2 1 (.slice (some ⟨w.heap.size, 0, none⟩) 1 1) (rTo xss s 0).length ((putAll (rTo xss s 0)).map (Value.int .i64))) :=
    World.ownsRow_lit (base := w.heap.size) (size := 1) (e := 2) w #[.int .i64 s] 1 (Nat.le_refl _) (by unfold maxLen; omega) (by simp)
  have HT0 : Hid (Tail ((w.alloc (.cells #[.int .i64 s] 2)).alloc (.cells #[.int .i64 s] 2)) w.heap.size (w.heap.size + 1) (.slice (some ⟨w.heap.size + 1, 0, none⟩) 1 1) ((rTo xss s 0).drop 0)) := by
    have := World.ownsRow_lit (base := w.heap.size) (size := 1) (e := 2) (w.alloc (.cells #[.int .i64 s] 2)) #[.int .i64 s] 1 (by simp) (by unfold maxLen; omega) (by simp)
    rw [show (w.alloc (.cells #[.int .i64 s] 2)).heap.size = w.heap.size + 1 by simp] at this
    exact tail_of_own (zs := [s]) this
  have HU1 := Lib.hid (HU0.out.alloc (.cells #[.int .i64 s] 2))
  have hb0 : Below w.heap.size w ((w.alloc (.cells #[.int .i64 s] 2)).alloc (.cells #[.int .i64 s] 2)) := below_alloc (below_alloc (Below.refl _ _) _) _
  clear h1 hg H1 HU0
  go_enter Try.func125, Try.ntmps125
  go_wp2
  go_loopw [5, 6] (fun u t wr => ∃ k g : Nat, Hid (k ≤ (rTo xss s k).length) ∧ Hid (wr.ownsRow w.heap.size 2 1 u (rTo xss s k).length ((putAll (rTo xss s k)).map (Value.int .i64))) ∧ Hid (Tail wr w.heap.size g t ((rTo xss s k).drop k)) ∧ Hid (u.ownBlock ≠ some g) ∧ Below w.heap.size w wr) (fun u t _ => n + 1 - (lenOf u - lenOf t))
  case atStart => exact ⟨0, w.heap.size + 1, Nat.zero_le _, HU1.out, HT0.out, by simp [Hid, Value.ownBlock], hb0⟩
  case round =>
    obtain ⟨k, g, hk, HO, HT, HNE, hb⟩ := hrel
    have hD := HDI.out k
    have hLn := hD.le
    have hkn := hk.out
    have HSU := Lib.hid (fun h => rTo_succ (xss := xss) (s := s) (i := k) h)
    have HST := Lib.hid (fun h => reach_stop (xss := xss) (s := s) (i := k) h (by omega))
    have HDD := Lib.hid hD
    obtain ⟨L, hL⟩ : ∃ L, L = rTo xss s k := ⟨_, rfl⟩
    rw [← hL] at HO HT HDD HSU HST hLn hkn
    clear hk hD
    have q1 := below_cell hb d1
    have lq := block_lt_of_cell q1
    obtain ⟨au, mu, cu, rfl, HMu⟩ := own_shape HO.out
    obtain rfl : mu = L.length := HMu.out
    have hdl : (L.drop k).length = L.length - k := by simp
    by_cases hlt : k < L.length
    · obtain ⟨z, hz⟩ : ∃ z, z = L.getD k 0 := ⟨_, rfl⟩
      have hzb := HDD.out.bd _ (mem_getD hlt)
      rw [← hz] at hzb
      have HZE := Lib.hid hz
      have HLE := Lib.hid hL
      have hdl2 : Hid ((L.drop k).length = L.length - k) := hdl
      obtain ⟨m, hmm⟩ : ∃ m, m = L.length - k := ⟨_, rfl⟩
      have HMM := Lib.hid hmm
      have h0m : 0 < m := by omega
      have hmk : m + k = L.length := by omega
      obtain ⟨off, ct, rfl, hct, dz, hlg⟩ := HT.out.head (by omega)
      rw [show (L.drop k).getD 0 0 = z by rw [hz]; simp [List.getD_eq_getElem?_getD]] at dz
      have HPOP := Lib.hid (fun a (c' : Nat) (ha : ct ≠ 1 → a = (⟨g, off + 1, none⟩ : Addr)) (hc : c' = ct - 1) => by have h := HT.out.pop (by omega) ha; rw [← hc] at h; exact h)
      rw [List.drop_drop] at HPOP
      rw [hdl, ← hmm] at hct
      rw [hdl, ← hmm] at HPOP
      rw [hdl, ← hmm]
      have i0 := idx_of Try.underlying32 size1_int (ao := some ⟨g, off, none⟩) (b := g) (o := off) (n := m) (c := ct) (fun _ => rfl) (k := 0) (by omega) .i64
      rw [Nat.add_zero] at i0
      have lz := block_lt_of_cell dz
      have hSU := HSU.out hlt
      rw [← hz] at hSU
      have HS2 := Lib.hid hSU
      have HDR := Lib.hid (fun x hx => HDD.out.row HG.out hzb x hx)
      have HTB := Lib.hid (fun x (hx : x < xss.length) => HG.out.toZ hzb hx)
      have HOL : Hid (wr.ownsRow w.heap.size 2 1 (.slice au L.length cu) (rRow xss z L 0).length ((putAll (rRow xss z L 0)).map (Value.int .i64))) := HO.out
      clear hz hL hdl hmm HMu hSU
      go_wp2
      all_goals
        go_loopw [5, 6, 8] (fun u t i wr => ∃ x g : Nat, x ≤ xss.length ∧ i = .int .i64 x ∧ Hid (wr.ownsRow w.heap.size 2 1 u (rRow xss z L x).length ((putAll (rRow xss z L x)).map (Value.int .i64))) ∧ Hid (Tail wr w.heap.size g t ((rRow xss z L x).drop (k + 1))) ∧ Hid (u.ownBlock ≠ some g) ∧ Below w.heap.size w wr) (fun _ _ i _ => xss.length - (intOf i).toNat)
        case atStart => exact ⟨0, g, Nat.zero_le _, rfl, HOL.out, HPOP.out _ _ (by intro h; first | rfl | (exfalso; omega)) (by first | rfl | omega), HNE.out, hb⟩
        case round =>
          obtain ⟨x, g2, hx, rfl, HR, HT2, HNE2, hb2⟩ := hrel
          have r1 := below_cell hb2 d1
          have lr := block_lt_of_cell r1
          have hDx := HDR.out x hx
          have hlM := hDx.le
          have hlx := rRow_len xss z L x
          have hnd := putAll_len hDx.nd
          have HSX := Lib.hid (rRow_succ xss z L x)
          obtain ⟨M, hM⟩ : ∃ M, M = rRow xss z L x := ⟨_, rfl⟩
          rw [← hM] at HR HT2 hlM hlx HSX hnd
          have HMX := Lib.hid hM
          obtain ⟨ar, mr, cr, rfl, HMr⟩ := own_shape HR.out
          obtain rfl : mr = M.length := HMr.out
          obtain ⟨at2, ct2, rfl⟩ := HT2.out.shape
          have hld : (M.drop (k + 1)).length = M.length - (k + 1) := List.length_drop ..
          rw [hld] at HT2 ⊢
          have HIN := Lib.hid (ints_of_own HR.out)
          clear hM HMr hDx hld
          by_cases hltx : x < xss.length
          · have i1 := idx_of Try.underlying22 size1_ints (c := c) A1 hltx .i64
            obtain ⟨rv, d2, hr1⟩ := HROW.out x hltx
            obtain ⟨ao2, p2, o2, c2, H2⟩ := hr1.open
            have hv2 := H2.val
            subst hv2
            have hrl := HRL.out x hltx
            have A2 := H2.adr
            rw [hrl] at A2 d2
            have hzn : z.toNat < n := by omega
            have d3 := H2.cell z.toNat (by rw [hrl]; exact hzn)
            have i2 := idx_at Try.underlying32 size1_int (c := c2) A2 hzn .i64 z (by omega)
            have e2 := below_cell hb2 d2
            have e3 := below_cell hb2 d3
            obtain ⟨t, ht⟩ : ∃ t, t = toZ xss z x := ⟨_, rfl⟩
            have e3' : wr.cell? ⟨p2, o2 + z.toNat, none⟩ = some (.int .i64 t) := by rw [ht]; exact e3
            rw [← ht] at HSX
            have HCT := l00Has_any _ (putAll M) t wr HIN.out
            have HPT := Lib.hid (l00Put_any _ (putAll M) t wr HIN.out (by omega))
            have le2 := block_lt_of_cell e2
            have le3 := block_lt_of_cell e3
            have HND := Lib.hid hnd
            clear ht e3 d2 d3 hr1 H2 hrl A2 hnd
            by_cases hin : t ∈ M
            · rw [show (putAll M).contains t = true by rw [List.contains_iff_mem, mem_putAll]; exact hin] at HCT
              have HC2 := Lib.hid HCT
              have HSY : Hid (rRow xss z L (x + 1) = M) := by unfold Hid; rw [HSX.out, addZ, if_pos hin]
              clear HCT hin HSX HPT
              go_wp2_with fail
              refine HC2.out.mono ?_
              rintro e w4 ⟨rfl, rfl⟩
              go_wp2
              go_roundw
              case rel => exact ⟨x + 1, g2, by omega, by go_num, by rw [HSY.out]; exact HR.out, by rw [HSY.out]; exact HT2.out, HNE2.out, hb2⟩
              case measure => simp [intOf]; omega
            · rw [show (putAll M).contains t = false by rw [Bool.eq_false_iff, ne_eq, List.contains_iff_mem, mem_putAll]; exact hin] at HCT
              have HC2 := Lib.hid HCT
              have HSY : Hid (rRow xss z L (x + 1) = M ++ [t]) := by unfold Hid; rw [HSX.out, addZ, if_neg hin]
              have HPA : Hid (putZ (putAll M) t = putAll (M ++ [t])) := (putAll_snoc M t).symm
              have HPL : Hid ((putAll (M ++ [t])).length = M.length + 1) := by
                unfold Hid
                rw [putAll_len, List.length_append]; · rfl
                · have := (HDR.out (x + 1) (by omega)).nd
                  rw [HSY.out] at this; exact this
              rw [HPA.out] at HPT
              clear HCT hin HSX
              go_wp2_with fail
              refine HC2.out.mono ?_
              rintro e w4 ⟨rfl, rfl⟩
              go_wp2_with fail
              refine HPT.out.mono ?_
              rintro e w5 ⟨v5, rfl, ho5, hb5⟩
              obtain ⟨a5, m5, c5, rfl, HM5⟩ := own_shape ho5
              obtain rfl : m5 = (putAll (M ++ [t])).length := HM5.out
              have HO5 := Lib.hid ho5
              have HT5 := Lib.hid (HT2.out.below hb5)
              have hbw := below_trans hb2 hb5
              have HG5 : Hid (g2 < w5.heap.size) := by have := HT2.out.lt; have := hb5.size; unfold Hid; omega
              have HGN : Hid ((Value.slice a5 (putAll (M ++ [t])).length c5).ownBlock ≠ some g2) := fun e => by have := (own_block HO5.out e).1; have := HT2.out.lt; omega
              have hlw2 := hb2.size
              have hdl2 : (M.drop (k + 1)).length ≤ 1048576 := by rw [List.length_drop]; omega
              clear ho5 HM5
              rw [HPL.out] at HO5 HGN ⊢
              go_wp2_with (at_builtin; refine wpList_tail_push rfl (.tmp 48) (.tmp 50) rfl w.heap.size g2 rfl HT5.out t rfl hdl2 hbw.size ?_; intro v6 w6 g6 ht6 hg6 hgr6)
              have HT6 := Lib.hid ht6
              have HO6 := Lib.hid (HO5.out.kept hgr6 (by
                cases hv : (Value.slice a5 (M.length + 1) c5).ownBlock with
                | none => exact .inl rfl
                | some q => exact .inr fun e => HGN.out (by rw [hv]; exact e)))
              have hb6 : Below w.heap.size w w6 := Below.grown hbw hgr6 hbw.size (fun q hq => by cases hq; exact HT5.out.low)
              have HN6 : Hid ((Value.slice a5 (M.length + 1) c5).ownBlock ≠ some g6) := fun e => by
                rcases hg6 with rfl | hq
                · exact HGN.out e
                · have := (own_block HO5.out e).2; omega
              clear ht6 hg6 hgr6
              go_wp2
              go_roundw
              case rel => exact ⟨x + 1, g6, by omega, by go_num, by rw [HSY.out, List.length_append]; exact own_lo HO6.out hlw2, by rw [HSY.out, List.drop_append_of_le_length (by omega)]; exact HT6.out, HN6.out, hb6⟩
              case measure => simp [intOf]; omega
          · obtain rfl : x = xss.length := by omega
            have HMX2 : Hid (M = rTo xss s (k + 1)) := by unfold Hid; rw [HS2.out]; exact HMX.out
            go_wp2
            go_roundw
            case rel => exact ⟨k + 1, g2, by unfold Hid; rw [← HMX2.out]; omega, by rw [← HMX2.out]; exact HR.out, by rw [← HMX2.out]; exact HT2.out, HNE2.out, hb2⟩
            case measure => simp [lenOf]; omega
    · have hst := HST.out (by omega)
      have hnil : L.drop k = [] := List.drop_eq_nil_of_le (by omega)
      rw [hnil] at HT
      obtain ⟨at2, ct2, rfl⟩ := HT.out.shape
      have HRC : Hid (rcZs xss s = putAll L) := by unfold Hid rcZs; rw [← hst]
      have HPL : Hid ((putAll L).length = L.length) := putAll_len HDD.out.nd
      clear hL hst HST HSU hdl hnil
      go_wp2
      go_ret
      exact ⟨_, rfl, by rw [HRC.out, HPL.out]; exact HO.out, hb⟩

end Go.Proofs.Ytlgnbbfhejjodaa
