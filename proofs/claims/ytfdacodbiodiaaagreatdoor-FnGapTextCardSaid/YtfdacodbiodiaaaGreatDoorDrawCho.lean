/- l04DrawChoice: a valid automaton with choices is drawn. Written by gen_drawcho.py. -/
import Derived.Test.YtfdacodbiodiaaaGreatDoorDrawPart
import Derived.Test.YtfdacodbiodiaaaGreatDoorChoiceOf
import Derived.Test.YtfdacodbiodiaaaGreatDoorSpecChoice
import Derived.Test.YtfdacodbiodiaaaGreatDoorPut
namespace Go.Proofs.YtfdacodbiodiaaaGreatDoor
set_option linter.unusedVariables false
set_option linter.unusedSimpArgs false
open Go.ChangeShapes Go.WideShapes Go.ChangeAt Go.RowKit

def GoodS (n : Nat) (s : List Int) : Prop := s.Pairwise (· < ·) ∧ ∀ z ∈ s, 0 ≤ z ∧ z < (n : Int)
theorem putZ_mem : ∀ (zs : List Int) (z x : Int), x ∈ putZ zs z → x = z ∨ x ∈ zs
  | [], z, x, h => by
    have : x = z := by simpa [putZ] using h
    exact .inl this
  | y :: ys, z, x, h => by
    unfold putZ at h
    split at h
    · rcases List.mem_cons.1 h with h | h
      · exact .inr (by rw [h]; exact List.mem_cons_self ..)
      · rcases putZ_mem ys z x h with h | h
        · exact .inl h
        · exact .inr (List.mem_cons_of_mem _ h)
    · split at h
      · exact .inr h
      · rcases List.mem_cons.1 h with h | h
        · exact .inl h
        · exact .inr h
theorem putZ_pair : ∀ (zs : List Int) (z : Int), zs.Pairwise (· < ·) → (putZ zs z).Pairwise (· < ·)
  | [], z, _ => by simp [putZ]
  | y :: ys, z, h => by
    obtain ⟨h1, h2⟩ := List.pairwise_cons.1 h
    unfold putZ
    split
    · rename_i hlt
      refine List.pairwise_cons.2 ⟨fun x hx => ?_, putZ_pair ys z h2⟩
      rcases putZ_mem ys z x hx with h | h
      · rw [h]; exact hlt
      · exact h1 x h
    · split
      · exact h
      · refine List.pairwise_cons.2 ⟨fun x hx => ?_, h⟩
        rcases List.mem_cons.1 hx with h | h
        · rw [h]; omega
        · have := h1 x h; omega
theorem putZ_good {n : Nat} {zs : List Int} {z : Int} (h : GoodS n zs) (h0 : 0 ≤ z) (h1 : z < (n : Int)) : GoodS n (putZ zs z) :=
  ⟨putZ_pair zs z h.1, fun x hx => by
    rcases putZ_mem zs z x hx with e | e
    · subst e; exact ⟨h0, h1⟩
    · exact h.2 x e⟩
theorem good_rises {n : Nat} {zs : List Int} (h : GoodS n zs) : risesB zs 0 ((n : Int) - 1) = true := by
  refine risesB_yes fun j hj => ?_
  unfold riseAt
  have hm := h.2 _ (getD_mem (d := 0) hj)
  rw [Bool.and_eq_true]
  refine ⟨inB_true.2 (by omega), ?_⟩
  by_cases h0 : j = 0
  · subst h0; rfl
  · have hp := (List.pairwise_iff_getElem.1 h.1) (j - 1) j (by omega) hj (by omega)
    have e1 : zs.getD (j - 1) 0 = zs[j - 1]'(by omega) := by simp [List.getD_eq_getElem?_getD, show j - 1 < zs.length by omega]
    have e2 : zs.getD j 0 = zs[j] := by simp [List.getD_eq_getElem?_getD, hj]
    rw [e1, e2, decide_eq_true hp, Bool.or_true]
theorem validC_of {st : Int} {n : Nat} {xss : List (List (List Int))} (hs : st = n) (h1 : 1 ≤ n) (h2 : n ≤ 10) (h3 : 1 ≤ xss.length) (h4 : xss.length ≤ 3) (h : ∀ r ∈ xss, r.length = n ∧ ∀ s ∈ r, GoodS n s) : validC st xss = true := by
  subst hs
  unfold validC rowsC setsB
  rw [Bool.and_eq_true, Bool.and_eq_true]
  refine ⟨inB_true.2 (by omega), inB_true.2 (by omega), ?_⟩
  rw [List.all_eq_true]
  intro r hr
  obtain ⟨a, b⟩ := h r hr
  rw [Bool.and_eq_true]
  refine ⟨decide_eq_true (by omega), ?_⟩
  rw [List.all_eq_true]
  intro s hs
  exact good_rises (b s hs)
theorem CAt.src {w w' : World} {sb ob : Nat} {st : Int} {xss : List (List (List Int))} (h : CAt w ob st xss) (hg : w.grownBy w' (some sb)) (hs : sb < ob) : CAt w' ob st xss := by
  obtain ⟨v, rs, c0, c1, f1, hc⟩ := h
  have hne : ob ≠ sb := by omega
  exact ⟨v, rs, cell_src c0 hg hne, cell_src c1 hg hne, frozen_src (block_lt_of_cell c1) f1 hg hne, (hc.chg trivial (Chg.of_grown (lo := sb) (hi := sb + 1) hg (fun g hg => by injection hg with hg; omega)) (.inr (by omega))).upto⟩
/-- the old blocks as they now lie -/
theorem cut_world {a b : World} {sb : Nat} (h : a.grownBy b (some sb)) : ∃ W : World, W.heap.size = a.heap.size ∧ Below W.heap.size W b ∧ a.grownBy W (some sb) := by
  have hs := h.size
  have e : ∀ k, k < a.heap.size → (b.heap.extract 0 a.heap.size)[k]? = b.heap[k]? := fun k hk => by
    rw [Array.getElem?_extract]
    simp [hk]
    omega
  refine ⟨{ b with heap := b.heap.extract 0 a.heap.size }, ?_, ⟨rfl, rfl, rfl, ?_, fun k hk => ?_⟩, ⟨h.os, h.tape, h.output, ?_, fun k hk hne => ?_⟩⟩
  · simp; omega
  · simp; omega
  · have hk2 : k < a.heap.size := by simp at hk; omega
    exact (e k hk2).symm
  · simp; omega
  · exact (e k hk).trans (h.block k hk hne)

/-- a valid automaton with choices, all whose memory is new -/
def ChoDraw (sb : Nat) (w : World) (e : Ending) (w' : World) : Prop :=
  ∃ (st : Int) (v : Value) (rs : List Value) (xss : List (List (List Int))), e = .returned (.agg #[.int .i64 st, v]) ∧ CubeIn w' w.heap.size w'.heap.size v rs xss ∧ validC st xss = true ∧ Below sb w w'

set_option maxRecDepth 100000 in
set_option maxHeartbeats 8000000 in
theorem l04DrawChoice_any (sb : Nat) (w : World) (h : SrcIn w sb 0) :
    Calls Tryz.prog 22 #[.pointer (some ⟨sb, 0, none⟩), .int .i64 4] w (ChoDraw sb w) := by
  have hsb : sb < w.heap.size := by obtain ⟨v, k, sd, c0, _⟩ := h; exact block_lt_of_cell c0
  have HPK := Lib.hid (fun m W (n : Int) (hs : SrcIn W sb m) (hm : m ≤ 1000000) (hn : n ≤ 200) => pick_any sb m n W hs hm hn)
  have HON := Lib.hid (fun m W (n : Int) (hs : SrcIn W sb m) (hm : m ≤ 1000000) (hn : n ≤ 200) => one_any sb m n W hs hm hn)
  obtain ⟨W2, hW2⟩ : ∃ W2, W2 = w.alloc (.cells #[.int .i64 0, .slice none 0 0] 30) := ⟨_, rfl⟩
  have bx : Below w.heap.size w W2 := by rw [hW2]; exact below_alloc (Below.refl _ _) _
  have p4 : W2.cell? ⟨w.heap.size, 0, none⟩ = some (.int .i64 0) := by rw [hW2]; go_simp
  have p5 : W2.cell? ⟨w.heap.size, 1, none⟩ = some (.slice none 0 0) := by rw [hW2]; go_simp
  have g4 : W2.frozen? ⟨w.heap.size, 0, none⟩ = false := by rw [hW2]; go_simp
  have g5 : W2.frozen? ⟨w.heap.size, 1, none⟩ = false := by rw [hW2]; go_simp
  have HS2 := Lib.hid (h.below bx)
  have hl2 : w.heap.size < W2.heap.size := block_lt_of_cell p4
  have hne : w.heap.size ≠ sb := by omega
  have bx2 : Below sb w W2 := bx.mono (by omega)
  subst hW2
  clear h
  go_enter Tryz.func22, Tryz.ntmps22
  go_wp2_with fail
  refine (HPK.out 0 _ 4 HS2.out (by omega) (by omega)).mono ?_
  rintro e w1 ⟨y0, rfl, hy0, hy1, hs1, hg1, hz1⟩
  have hy1' := hy1 (by omega)
  obtain ⟨n, hn⟩ : ∃ n : Nat, 1 + y0 = (n : Int) := ⟨(1 + y0).toNat, by omega⟩
  have hn1 : 1 ≤ n := by omega
  have hn4 : n ≤ 4 := by omega
  have q4 := cell_src p4 hg1 hne
  have q5 := cell_src p5 hg1 hne
  have f4 := frozen_src hl2 g4 hg1 hne
  have f5 := frozen_src hl2 g5 hg1 hne
  have b1 : Below sb w w1 := Below.grown bx2 hg1 (by omega) (fun g hg => by injection hg with hg; omega)
  have hl1 : w.heap.size < w1.heap.size := block_lt_of_cell q4
  have HS1 := Lib.hid (hs1.below (below_alloc (Below.refl _ _) (.cells #[.int .i64 (n : Int), .slice none 0 0] 30)))
  have HO1 : Hid (CAt (w1.alloc (.cells #[.int .i64 (n : Int), .slice none 0 0] 30)) w1.heap.size n []) := ⟨_, [], by go_simp, by go_simp, by go_simp, cubeIn_nil _ _⟩
  have HB1 : Hid (Below w1.heap.size w1 (w1.alloc (.cells #[.int .i64 (n : Int), .slice none 0 0] 30))) := below_alloc (Below.refl _ _) _
  clear hy1 hs1 hg1 hz1 hy1' p4 p5 g4 g5 hl2 bx bx2
  go_wp2_with fail
  refine (HPK.out 1 _ 2 HS1.out (by omega) (by omega)).mono ?_
  rintro e w2 ⟨y2, rfl, hy2, hy3, hs2, hg2, hz2⟩
  have hy3' := hy3 (by omega)
  obtain ⟨K, hK⟩ : ∃ K : Nat, 1 + y2 = (K : Int) := ⟨(1 + y2).toNat, by omega⟩
  have hK1 : 1 ≤ K := by omega
  have hK3 : K ≤ 3 := by omega
  have hsw1 : sb < w1.heap.size := by omega
  have hne1 : w1.heap.size ≠ sb := by omega
  have HO2 := Lib.hid (CAt.src HO1.out hg2 (by omega))
  have HS2' := Lib.hid hs2
  have HG2 := Lib.hid (grown_new (r := some sb) (grown_of_below HB1.out) hg2 (fun g hg => .inr hg.symm))
  clear hy3 hs2 hg2 hz2 hy3' HS1 HO1 HB1 HS2
  go_wp2
  go_loopw [6, 7, 8, 9, 10] (fun i z7 z8 z9 z10 wr => ∃ (k : Nat) (zsss : List (List (List Int))), zsss.length + k = K ∧ i = .int .i64 k ∧ Hid (CAt wr w1.heap.size n zsss) ∧ Hid (∀ r ∈ zsss, r.length = n ∧ ∀ s ∈ r, GoodS n s) ∧ Hid (SrcIn wr sb (2 + 100 * zsss.length)) ∧ Hid (w1.grownBy wr (some sb))) (fun i _ _ _ _ _ => (intOf i).toNat)
  case atStart => exact ⟨K, [], by simp, rfl, HO2.out, (by intro r hr; cases hr), by unfold Hid; simpa using HS2'.out, HG2.out⟩
  case round =>
    obtain ⟨k, zsss, hzl, rfl, HO, HR, HS, HG⟩ := hrel
    by_cases hk : 0 < k
    · obtain ⟨wo, rfl⟩ : ∃ wo : World, wo = wr := ⟨_, rfl⟩
      obtain ⟨v0, rs, k0, k1, g1, hcub⟩ := HO.out
      have lobo : w1.heap.size + 1 ≤ wo.heap.size := block_lt_of_cell k0
      have HE := Lib.hid (ownRows_empty wo wo.heap.size (Nat.le_refl _))
      have HS0 := Lib.hid (HS.out.below (below_alloc (Below.refl _ _) (.cells #[] 45)))
      have HG0 : Hid (wo.grownBy (wo.alloc (.cells #[] 45)) (some sb)) := grown_of_below (below_alloc (Below.refl _ _) _)
      have hkI : (0 : Int) < (k : Int) := by omega
      clear hcub
      go_wp2
      go_loopw [7, 8, 9, 10] (fun u i z9 z10 wr => ∃ (ys : List (List Int)), ys.length ≤ n ∧ i = .int .i64 ys.length ∧ Hid (∃ rss, OwnRows wr wo.heap.size u rss ys) ∧ Hid (∀ s ∈ ys, GoodS n s) ∧ Hid (SrcIn wr sb (2 + 100 * zsss.length + 20 * ys.length)) ∧ Hid (wo.grownBy wr (some sb))) (fun _ i _ _ _ => n - (intOf i).toNat)
      case atStart => exact ⟨[], Nat.zero_le _, rfl, ⟨[], HE.out⟩, (by intro z hz; cases hz), HS0.out, HG0.out⟩
      case round =>
        obtain ⟨ys, hyl, rfl, HY, HYS, HSY, HGY⟩ := hrel
        obtain ⟨wq, rfl⟩ : ∃ wq : World, wq = wr := ⟨_, rfl⟩
        obtain ⟨rss, hu⟩ := HY.out
        obtain ⟨au, mu, cu, rfl, HMu⟩ := own_shape hu.outer
        have m0 := cell_src k0 HGY.out hne1
        have lm0 := block_lt_of_cell m0
        have hwqs := HGY.out.size
        have HGQ := Lib.hid HGY.out
        by_cases hlt : ys.length < n
        · have HEz := Lib.hid (own_empty wq wq.heap.size (Nat.le_refl _) 2)
          have HSz := Lib.hid (HSY.out.below (below_alloc (Below.refl _ _) (.cells #[] 2)))
          have HGz : Hid (wq.grownBy (wq.alloc (.cells #[] 2)) (some sb)) := grown_of_below (below_alloc (Below.refl _ _) _)
          clear HMu HY
          go_wp2_with fail
          refine (HPK.out _ _ 2 HSz.out (by omega) (by omega)).mono ?_
          rintro e w3 ⟨y, rfl, hyy0, hyy1, hs3, hg3, hz3⟩
          have hyy1' := hyy1 (by omega)
          obtain ⟨I, hI⟩ : ∃ I : Nat, 1 + y = (I : Int) := ⟨(1 + y).toNat, by omega⟩
          have hI2 : I ≤ 2 := by omega
          have HZ3 := Lib.hid (own_src HEz.out hg3 (by omega))
          have HS3 := Lib.hid hs3
          have HG3 := Lib.hid (grown_trans HGz.out hg3)
          clear hyy1 hyy1' hs3 hg3 hz3 HEz HSz HGz
          go_wp2
          go_loopw [9, 10] (fun t i wr => ∃ (c : Nat) (zs : List Int), c ≤ 2 ∧ i = .int .i64 c ∧ zs.length + c ≤ 2 ∧ Hid (wr.ownsRow wq.heap.size 2 1 t zs.length (zs.map (Value.int .i64))) ∧ Hid (GoodS n zs) ∧ Hid (SrcIn wr sb (2 + 100 * zsss.length + 20 * ys.length + 10 - 3 * c)) ∧ Hid (wq.grownBy wr (some sb))) (fun _ i _ => (intOf i).toNat)
          case atStart => exact ⟨I, [], hI2, rfl, by simpa using hI2, HZ3.out, ⟨List.Pairwise.nil, by intro z hz; cases hz⟩, HS3.out.mono (by omega), HG3.out⟩
          case round =>
            obtain ⟨c, zs, hc2, rfl, hzc, HZ, HGZ, HSC, HGC⟩ := hrel
            have n0 := cell_src m0 HGC.out hne1
            have ln0 := block_lt_of_cell n0
            have hwqc := HGC.out.size
            by_cases hc : 0 < c
            · have hcI : (0 : Int) < (c : Int) := by omega
              go_wp2_with fail
              refine (HON.out _ _ 10 HSC.out (by omega) (by omega)).mono ?_
              rintro e w4 ⟨b, rfl, hs4, hg4, hz4⟩
              have HZ4 := Lib.hid (own_src HZ.out hg4 (by omega))
              have HS4 := Lib.hid hs4
              have HG4 := Lib.hid (grown_trans HGC.out hg4)
              have l0 := cell_src n0 hg4 hne1
              have ll0 := block_lt_of_cell l0
              have hw4 : wq.heap.size ≤ w4.heap.size := HG4.out.size
              clear hs4 hg4 hz4
              cases b with
              | true =>
                have HZX := HZ4
                have HGX := HG4
                have HSX := HS4
                obtain ⟨WX, rfl⟩ : ∃ WX : World, WX = w4 := ⟨_, rfl⟩
                have hcnt : 2 + 100 * zsss.length + 20 * ys.length + 10 - 3 * c + 1 ≤ 2 + 100 * zsss.length + 20 * ys.length + 20 := by omega
                clear HZ HGC HSC
                have HUX := Lib.hid (hu.src HGX.out (by omega))
                have HSET := Lib.hid (own_lo HZX.out hwqs)
                have HAP := Lib.hid (apart_rows HZX.out hu)
                obtain ⟨aS, mS, cS, rfl, HMS⟩ := own_shape HZX.out
                have hszx : wo.heap.size ≤ WX.heap.size := Nat.le_trans hwqs HGX.out.size
                have hwoq := HGQ.out
                clear HMS
                go_wp2_with (at_builtin; refine wpList_push elem_ints rfl (.tmp 49) (.tmp 51) rfl wo.heap.size (v := .slice au mu cu) rfl HUX.out.outer (.slice aS mS cS) rfl rfl (by unfold maxLen; omega) (by omega) hszx ?_; intro v6 w6 ho6 hg6 hs6)
                have hra := HUX.out.append hg6 ho6 (ys := zs) HSET.out HAP.out
                have HRA := Lib.hid hra
                have hbk6 : ∀ g, Value.ownBlock (.slice au mu cu) = some g → wo.heap.size ≤ g := fun g hg => (own_block HUX.out.outer hg).1
                have HS6 := Lib.hid ((HSX.out.grown hg6 (fun g hg => by have := hbk6 g hg; omega)).mono hcnt)
                have HG6 := Lib.hid (grown_new (grown_trans hwoq HGX.out) hg6 (fun g hg => .inl (hbk6 g hg)))
                clear hra ho6 hg6 hs6 hbk6 hwoq
                go_wp2
                go_roundw
                case rel =>
                  refine ⟨ys ++ [zs], (by rw [List.length_append, List.length_singleton]; omega), (by simp), ⟨_, HRA.out⟩, ?_, ?_, HG6.out⟩
                  · intro s hs
                    rcases List.mem_append.1 hs with h | h
                    · exact HYS.out s h
                    · rw [List.mem_singleton] at h; subst h; exact HGZ.out
                  · exact HS6.out.mono (by rw [List.length_append, List.length_singleton]; omega)
                case measure => simp [intOf]; omega
              | false =>
                go_wp2_with fail
                refine (HPK.out _ _ (n : Int) HS4.out (by omega) (by omega)).mono ?_
                rintro e w5 ⟨y5, rfl, hz50, hz51, hs5, hg5, hz5⟩
                have HZ5 := Lib.hid (own_src HZ4.out hg5 (by omega))
                have HS5 := Lib.hid hs5
                have HG5 := Lib.hid (grown_trans HG4.out hg5)
                have hy5n := hz51 (by omega)
                have HPZ := Lib.hid (l00Put_any _ zs y5 w5 (ints_of_own HZ5.out) (by omega))
                have HGP := Lib.hid (putZ_good HGZ.out hz50 hy5n)
                have hpl := putZ_len zs y5
                obtain ⟨at5, mt5, ct5, rfl, HMt⟩ := own_shape HZ5.out
                have hw5 : wq.heap.size ≤ w5.heap.size := HG5.out.size
                clear hz51 hs5 hg5 hz5 HMt
                go_wp2_with fail
                refine HPZ.out.mono ?_
                rintro e w6 ⟨v6, rfl, ho6, hb6⟩
                have HO6 := Lib.hid (own_lo ho6 hw5)
                have HS6 := Lib.hid (HS5.out.below hb6)
                have HG6 := Lib.hid (grown_new HG5.out (grown_of_below (r := none) hb6) (fun g hg => by cases hg))
                clear ho6 hb6
                go_wp2
                go_roundw
                case rel => exact ⟨c - 1, putZ zs y5, by omega, (by congr 1; omega), by omega, HO6.out, HGP.out, HS6.out.mono (by omega), HG6.out⟩
                case measure => simp [intOf]; omega
            · obtain rfl : c = 0 := by omega
              have hcI : ¬ ((0 : Int) < ((0 : Nat) : Int)) := by omega
              have HZX := HZ
              have HGX := HGC
              have HSX := HSC
              obtain ⟨WX, rfl⟩ : ∃ WX : World, WX = wr := ⟨_, rfl⟩
              have hcnt : 2 + 100 * zsss.length + 20 * ys.length + 10 - 3 * 0 ≤ 2 + 100 * zsss.length + 20 * ys.length + 20 := by omega
              clear HZ HGC HSC
              have HUX := Lib.hid (hu.src HGX.out (by omega))
              have HSET := Lib.hid (own_lo HZX.out hwqs)
              have HAP := Lib.hid (apart_rows HZX.out hu)
              obtain ⟨aS, mS, cS, rfl, HMS⟩ := own_shape HZX.out
              have hszx : wo.heap.size ≤ WX.heap.size := Nat.le_trans hwqs HGX.out.size
              have hwoq := HGQ.out
              clear HMS
              go_wp2_with (at_builtin; refine wpList_push elem_ints rfl (.tmp 49) (.tmp 51) rfl wo.heap.size (v := .slice au mu cu) rfl HUX.out.outer (.slice aS mS cS) rfl rfl (by unfold maxLen; omega) (by omega) hszx ?_; intro v6 w6 ho6 hg6 hs6)
              have hra := HUX.out.append hg6 ho6 (ys := zs) HSET.out HAP.out
              have HRA := Lib.hid hra
              have hbk6 : ∀ g, Value.ownBlock (.slice au mu cu) = some g → wo.heap.size ≤ g := fun g hg => (own_block HUX.out.outer hg).1
              have HS6 := Lib.hid ((HSX.out.grown hg6 (fun g hg => by have := hbk6 g hg; omega)).mono hcnt)
              have HG6 := Lib.hid (grown_new (grown_trans hwoq HGX.out) hg6 (fun g hg => .inl (hbk6 g hg)))
              clear hra ho6 hg6 hs6 hbk6 hwoq
              go_wp2
              go_roundw
              case rel =>
                refine ⟨ys ++ [zs], (by rw [List.length_append, List.length_singleton]; omega), (by simp), ⟨_, HRA.out⟩, ?_, ?_, HG6.out⟩
                · intro s hs
                  rcases List.mem_append.1 hs with h | h
                  · exact HYS.out s h
                  · rw [List.mem_singleton] at h; subst h; exact HGZ.out
                · exact HS6.out.mono (by rw [List.length_append, List.length_singleton]; omega)
              case measure => simp [intOf]; omega
        · have hyn : ys.length = n := by omega
          have hcd : ¬ ((ys.length : Int) < (n : Int)) := by omega
          obtain ⟨Wc, hWs, hWb, hWg⟩ := cut_world HGY.out
          obtain ⟨v1, rs1, c0, c1, d1, hcub1⟩ := CAt.src HO.out hWg (by omega)
          have e0 := below_cell hWb c0
          have e1 := below_cell hWb c1
          have e2 := (hWb.frozen (p := ⟨w1.heap.size, 1, none⟩) (block_lt_of_cell c1)).trans d1
          obtain ⟨a0, mm0, cc0, rfl, HM0⟩ := own_shape hcub1.outer
          have hcu := own_below hcub1.outer hWb
          have HCU := Lib.hid hcu
          have HCB := Lib.hid hcub1
          have HK := Lib.hid (And.intro c0 (And.intro c1 d1))
          have HU := Lib.hid hu
          have HWB := Lib.hid hWb
          have hWB2 := Lib.hid hWs
          have hlw : w1.heap.size < wq.heap.size := block_lt_of_cell e1
          have HGW := Lib.hid (grown_trans HG.out HGY.out)
          clear hcub1 hcu hu hWb hWs hWg HM0 HMu c0 c1 d1
          go_wp2_with (at_builtin; refine wpList_push elem_cube rfl (.tmp 54) (.tmp 56) rfl (w1.heap.size + 1) (v := .slice a0 mm0 cc0) rfl HCU.out (.slice au mu cu) rfl rfl (by unfold maxLen; omega) (by omega) (by omega) ?_; intro v6 w6 ho6 hg6 hs6; obtain ⟨a6, m6, c6, rfl, HM6⟩ := own_shape ho6; have r1 := grown_cell hg6 HCU.out (Nat.lt_succ_self _) e1; have r2 := grown_frozen hg6 HCU.out (Nat.lt_succ_self _) e1 e2; have lr := block_lt_of_cell r1)
          have hp := CAt.push HK.out.1 HK.out.2.1 HK.out.2.2 HCB.out HWB.out (HU.out.mono (by rw [hWB2.out]; exact Nat.le_refl _)) (Below.refl _ _) ho6 hg6 hs6
          have HP := Lib.hid hp
          have hbk6 : ∀ g, Value.ownBlock (.slice a0 mm0 cc0) = some g → w1.heap.size ≤ g := fun g hg => by have := (own_block HCU.out hg).1; omega
          have HS6 := Lib.hid ((HSY.out.grown hg6 (fun g hg => by have := hbk6 g hg; omega)).grown (grown_set _ _ _ _) (fun g hg => by injection hg with hg; omega) : SrcIn (w6.setCell ⟨w1.heap.size, 1, none⟩ (.slice a6 m6 c6)) sb _)
          have HG6 := Lib.hid (grown_new (grown_new HGW.out hg6 (fun g hg => .inl (hbk6 g hg))) (grown_set w6 w1.heap.size 1 (.slice a6 m6 c6)) (fun g hg => .inl (by injection hg with hg; omega)))
          clear hp ho6 hg6 hs6 hbk6
          go_wp2
          go_roundw
          case rel =>
            refine ⟨k - 1, zsss ++ [ys], (by rw [List.length_append, List.length_singleton]; omega), (by congr 1; omega), HP.out, ?_, ?_, HG6.out⟩
            · intro r hr
              rcases List.mem_append.1 hr with h | h
              · exact HR.out r h
              · rw [List.mem_singleton] at h; subst h; exact ⟨hyn, HYS.out⟩
            · exact HS6.out.mono (by rw [List.length_append, List.length_singleton]; omega)
          case measure => simp [intOf]; omega
    · obtain rfl : k = 0 := by omega
      have hkI : ¬ ((0 : Int) < ((0 : Nat) : Int)) := by omega
      obtain ⟨v0, rs, k0, k1, g1, hcub⟩ := HO.out
      obtain ⟨a0, mm0, cc0, rfl, HM0⟩ := own_shape hcub.outer
      have lobr : w1.heap.size < wr.heap.size := block_lt_of_cell k0
      have r4 := cell_src q4 HG.out hne
      have r5 := cell_src q5 HG.out hne
      have t4 := frozen_src hl1 f4 HG.out hne
      have t5 := frozen_src hl1 f5 HG.out hne
      have hzr := block_lt_of_cell r4
      have HV : Hid (validC (n : Int) zsss = true) := validC_of rfl hn1 (by omega) (by omega) (by omega) HR.out
      have HBF := Lib.hid (b1.trans (below_of_grown HG.out (by omega)))
      have HCB := Lib.hid hcub
      clear hcub HM0
      go_wp2
      refine bodyPost_ret (v := .agg #[.int .i64 n, .slice a0 mm0 cc0]) (by simp [results, Tryz.results22, go_sem, r4, r5, hzr]) rfl ⟨n, _, rs, zsss, rfl, ?_, HV.out, ?_⟩
      · exact ((((HCB.out.set_below (by omega) _ _).set_below (by omega) _ _).mono (by omega))).upto
      · exact (HBF.out.setCell (p := ⟨w.heap.size, 0, none⟩) (by show sb ≤ w.heap.size; omega) _).setCell (p := ⟨w.heap.size, 1, none⟩) (by show sb ≤ w.heap.size; omega) _
end Go.Proofs.YtfdacodbiodiaaaGreatDoor
