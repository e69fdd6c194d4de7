/- ChoiceOf of the reference and of the program. Written by gen_choof.py. -/
import Derived.Test.YtocdkeidjocmkaaCubeMark
import Derived.Test.YtocdkeidjocmkaaValidPart
import Derived.Test.YtocdkeidjocmkaaSpecPart
import Derived.Deep.DeepCutAuto
namespace Go.Proofs.Ytocdkeidjocmkaa
set_option linter.unusedVariables false
set_option linter.unusedSimpArgs false
open Go.ChangeShapes Go.WideShapes Go.ChangeAt Go.RowKit

theorem elem_cube : Elem Try.prog 26 22 (.slice none 0 0) 24 := ⟨Try.underlying26, by kernel_rfl, rfl⟩
def coSet (z : Int) : List Int := if z < 0 then [] else [z]
def coRow (r : List Int) : List (List Int) := r.map coSet
def coCube (xss : List (List Int)) : List (List (List Int)) := xss.map coRow
theorem coRow_len (r : List Int) : (coRow r).length = r.length := by simp [coRow]
theorem coCube_len (xss : List (List Int)) : (coCube xss).length = xss.length := by simp [coCube]
theorem coRow_take {r : List Int} {k : Nat} (h : k < r.length) : (coRow r).take k ++ [coSet (r.getD k 0)] = (coRow r).take (k + 1) := by
  rw [List.take_succ_eq_append_getElem (by rw [coRow_len]; exact h)]
  simp [coRow, List.getD_eq_getElem?_getD, h]
theorem coCube_take {xss : List (List Int)} {k : Nat} (h : k < xss.length) : (coCube xss).take k ++ [coRow (xss.getD k [])] = (coCube xss).take (k + 1) := by
  rw [List.take_succ_eq_append_getElem (by rw [coCube_len]; exact h)]
  simp [coCube, List.getD_eq_getElem?_getD, h]
theorem coRow_bulk (r : List Int) : bulk2 (coRow r) ≤ r.length := by
  unfold bulk2 coRow
  induction r with
  | nil => simp
  | cons z r ih =>
    have h : (coSet z).length ≤ 1 := by unfold coSet; split <;> simp
    simp at ih ⊢
    omega
theorem coCube_bulk : ∀ (xss : List (List Int)) (m : Nat), (∀ r ∈ xss, r.length ≤ m) → bulkN (coCube xss) ≤ xss.length * m := by
  intro xss m
  induction xss with
  | nil => intro _; simp [bulkN, coCube]
  | cons r xss ih =>
    intro h
    have h1 := ih fun r hr => h r (List.mem_cons_of_mem _ hr)
    have h2 := coRow_bulk r
    have h3 := h r (List.mem_cons_self ..)
    unfold bulkN coCube at h1 ⊢
    simp only [List.map_cons, List.sum_cons, List.length_cons, Nat.succ_mul]
    omega
def coCd (st : Int) (xss : List (List Int)) : Int := if validP st xss = true then 0 else 1
def coSt (st : Int) (xss : List (List Int)) : Int := if validP st xss = true then st else 0
def coZs (st : Int) (xss : List (List Int)) : List (List (List Int)) := if validP st xss = true then coCube xss else []
theorem validP_rows {st : Int} {xss : List (List Int)} (h : validP st xss = true) : xss.length ≤ 3 ∧ ∀ r ∈ xss, r.length ≤ 10 := by
  unfold validP at h
  rw [Bool.and_eq_true, Bool.and_eq_true] at h
  obtain ⟨h1, h2, h3⟩ := h
  have h1' := inB_true.1 h1
  have h2' := inB_true.1 h2
  refine ⟨by omega, fun r hr => ?_⟩
  unfold rowsP at h3
  have := List.all_eq_true.1 h3 r hr
  rw [Bool.and_eq_true] at this
  have a' := of_decide_eq_true this.1
  omega
theorem coZs_bulk (st : Int) (xss : List (List Int)) : bulkN (coZs st xss) ≤ 1000 := by
  unfold coZs
  split
  · rename_i h
    obtain ⟨h1, h2⟩ := validP_rows h
    have := coCube_bulk xss 10 h2
    omega
  · simp [bulkN]

theorem apart_newer0 {w0 w : World} {lo lo2 : Nat} {e e2 : TypeId} {n n2 : Nat} {v r : Value} {xs ys : List Value} (h : w0.ownsRow lo e 1 v n xs) (hr : w.ownsRow lo2 e2 1 r n2 ys) (hl : w0.heap.size ≤ lo2) : r.ownBlock = none ∨ r.ownBlock ≠ v.ownBlock := by
  cases hv : r.ownBlock with
  | none => exact .inl rfl
  | some q =>
    refine .inr fun hh => ?_
    have a1 := own_block h hh.symm
    have a2 := own_block hr hv
    omega
/-- a struct of a number and lists of rows, and a code -/
def NewChoice2 (st : Int) (zsss : List (List (List Int))) (code : Int) (w : World) (e : Ending) (w' : World) : Prop :=
  ∃ v rs, e = .returned (.tuple #[.agg #[.int .i64 st, v], .int .i64 code]) ∧ CubeIn w' w.heap.size w'.heap.size v rs zsss ∧ Below w.heap.size w w'
/-- block ob is a struct of a number and lists of rows in the making -/
def CAt (w : World) (ob : Nat) (st : Int) (zsss : List (List (List Int))) : Prop :=
  ∃ v rs, w.cell? ⟨ob, 0, none⟩ = some (.int .i64 st) ∧ w.cell? ⟨ob, 1, none⟩ = some v ∧ w.frozen? ⟨ob, 1, none⟩ = false ∧ CubeIn w (ob + 1) w.heap.size v rs zsss
theorem CAt.push {W w2 w2' w6 : World} {ob : Nat} {st : Int} {v v6 r : Value} {rs rss : List Value} {zsss : List (List (List Int))} {zss : List (List Int)} (c0 : W.cell? ⟨ob, 0, none⟩ = some (.int .i64 st)) (c1 : W.cell? ⟨ob, 1, none⟩ = some v) (f1 : W.frozen? ⟨ob, 1, none⟩ = false)
    (hc : CubeIn W (ob + 1) W.heap.size v rs zsss) (hb : Below W.heap.size W w2) (hr : OwnRows w2 W.heap.size r rss zss) (hb2 : Below w2.heap.size w2 w2') (ho : w6.ownsRow (ob + 1) 22 1 v6 (zsss.length + 1) (rs ++ [r])) (hg : w2'.grownBy w6 v.ownBlock) (hs : SameOrNew v v6 w2'.heap.size) : CAt (w6.setCell ⟨ob, 1, none⟩ v6) ob st (zsss ++ [zss]) := by
  have hl : ob < W.heap.size := block_lt_of_cell c0
  have hbb := below_trans hb hb2
  have hou := own_below hc.outer hbb
  have hl6 : ob + 1 ≤ ob + 1 := Nat.le_refl _
  have k0 := grown_cell hg hou (Nat.lt_succ_self _) (below_cell hbb c0)
  have k1 := grown_cell hg hou (Nat.lt_succ_self _) (below_cell hbb c1)
  have g1 := grown_frozen hg hou (Nat.lt_succ_self _) (below_cell hbb c1) ((hbb.frozen (p := ⟨ob, 1, none⟩) hl).trans f1)
  have lk := block_lt_of_cell k1
  have h6 := (hc.push (by omega) hb hr hb2 ho hg hs).set_below (Nat.lt_succ_self ob) 1 v6
  refine ⟨v6, _, ?_, ?_, ?_, h6.upto⟩
  · go_simp
  · go_simp
  · go_simp

set_option maxRecDepth 100000 in
set_option maxHeartbeats 4000000 in
theorem implChoiceOf_any (st : Int) (v : Value) (xss : List (List Int)) (w : World) (h1 : Rows2 w v xss) :
    Calls Try.prog 11 #[.agg #[.int .i64 st, v]] w (NewChoice2 (coSt st xss) (coZs st xss) (coCd st xss) w) := by
  obtain ⟨ao, p1, o1, c, H1⟩ := h1.open
  have hv1 := H1.val
  subst hv1
  have A1 := H1.adr
  have hm := H1.len
  have HROW := Lib.hid H1.cell
  obtain ⟨W2, hW2⟩ : ∃ W2, W2 = (w.alloc (.cells #[.int .i64 st, .slice ao xss.length c] 31)).alloc (.cells #[.int .i64 0, .slice none 0 0] 28) := ⟨_, rfl⟩
  have bx : Below w.heap.size w W2 := by rw [hW2]; exact below_alloc (below_alloc (Below.refl _ _) _) _
  have p0 : W2.cell? ⟨w.heap.size, 0, none⟩ = some (.int .i64 st) := by rw [hW2]; go_simp
  have p1' : W2.cell? ⟨w.heap.size, 1, none⟩ = some (.slice ao xss.length c) := by rw [hW2]; go_simp
  have p4 : W2.cell? ⟨w.heap.size + 1, 0, none⟩ = some (.int .i64 0) := by rw [hW2]; go_simp
  have p5 : W2.cell? ⟨w.heap.size + 1, 1, none⟩ = some (.slice none 0 0) := by rw [hW2]; go_simp
  have g4 : W2.frozen? ⟨w.heap.size + 1, 0, none⟩ = false := by rw [hW2]; go_simp
  have g5 : W2.frozen? ⟨w.heap.size + 1, 1, none⟩ = false := by rw [hW2]; go_simp
  have HOK := Lib.hid (validPart_any st _ xss W2 (h1.kept bx))
  cases hv : validP st xss
  · rw [show coSt st xss = 0 by simp [coSt, hv], show coZs st xss = [] by simp [coZs, hv], show coCd st xss = 1 by simp [coCd, hv]]
    rw [hv] at HOK
    subst hW2
    clear hv h1 H1
    go_enter Try.func11, Try.ntmps11
    go_wp2_with fail
    refine HOK.out.mono ?_
    rintro e w2 ⟨rfl, hb⟩
    have q4 := below_cell hb p4
    have q5 := below_cell hb p5
    have f4 := (hb.frozen (p := ⟨w.heap.size + 1, 0, none⟩) (block_lt_of_cell p4)).trans g4
    have f5 := (hb.frozen (p := ⟨w.heap.size + 1, 1, none⟩) (block_lt_of_cell p5)).trans g5
    have hz9 : w.heap.size + 1 < w2.heap.size := block_lt_of_cell q4
    have HBB := Lib.hid (below_trans bx hb)
    go_wp2
    exact bodyPost_ret (v := .tuple #[.agg #[.int .i64 0, .slice none 0 0], .int .i64 1]) (by simp [results, Try.results11, go_sem, q4, q5, hz9]) rfl ⟨_, [], rfl, (cubeIn_nil _ _), by repeat (first | exact HBB.out | refine below_set ?_ (by omega) _ _)⟩
  · rw [show coSt st xss = st by simp [coSt, hv], show coZs st xss = coCube xss by simp [coZs, hv], show coCd st xss = 0 by simp [coCd, hv]]
    rw [hv] at HOK
    obtain ⟨hl3, hl10⟩ := validP_rows hv
    have HL10 := Lib.hid (fun k (hk : k < xss.length) => hl10 _ (show xss.getD k [] ∈ xss by rw [List.getD_eq_getElem?_getD, List.getElem?_eq_getElem hk]; exact List.getElem_mem hk))
    have HCT := Lib.hid (fun k (hk : k < xss.length) => coCube_take (xss := xss) hk)
    have HCL := Lib.hid (coCube_len xss)
    subst hW2
    clear hv h1 H1 hl10
    go_enter Try.func11, Try.ntmps11
    go_wp2_with fail
    refine HOK.out.mono ?_
    rintro e w2 ⟨rfl, hb⟩
    have hbw2 : Below w.heap.size w w2 := below_trans bx hb
    have e0 := below_cell hb p0
    have e1 := below_cell hb p1'
    have le0 : w.heap.size < w2.heap.size := block_lt_of_cell e0
    have q4 := below_cell hb p4
    have q5 := below_cell hb p5
    have f4 := (hb.frozen (p := ⟨w.heap.size + 1, 0, none⟩) (block_lt_of_cell p4)).trans g4
    have f5 := (hb.frozen (p := ⟨w.heap.size + 1, 1, none⟩) (block_lt_of_cell p5)).trans g5
    have hz9 : w.heap.size + 1 < w2.heap.size := block_lt_of_cell q4
    have HC0 : Hid (CAt (w2.alloc (.cells #[.int .i64 st, .slice none 0 0] 28)) w2.heap.size st ((coCube xss).take 0)) := ⟨_, [], by go_simp, by go_simp, by go_simp, cubeIn_nil _ _⟩
    have HB0 : Hid (Below w2.heap.size w2 (w2.alloc (.cells #[.int .i64 st, .slice none 0 0] 28))) := below_alloc (Below.refl _ _) _
    clear p0 p1' p4 p5 g4 g5
    go_wp2
    go_loopw [21] (fun i wr => ∃ k : Nat, k ≤ xss.length ∧ i = .int .i64 k ∧ Hid (CAt wr w2.heap.size st ((coCube xss).take k)) ∧ Below w2.heap.size w2 wr ∧ w2.heap.size < wr.heap.size) (fun i _ => xss.length - (intOf i).toNat)
    case atStart => exact ⟨0, Nat.zero_le _, rfl, HC0.out, HB0.out, by simp⟩
    case round =>
      obtain ⟨k, hk, rfl, HC, hbo, hlo⟩ := hrel
      obtain ⟨wq, rfl⟩ : ∃ wq : World, wq = wr := ⟨_, rfl⟩
      have x1 := Below.cellOf hbo e1 (by omega)
      have hbwq : Below w.heap.size w wq := hbw2.trans (hbo.mono (by omega))
      have lx := block_lt_of_cell x1
      by_cases hlt : k < xss.length
      · have i1 := idx_of Try.underlying22 size1_ints (c := c) A1 hlt .i64
        obtain ⟨r1, dr, hr1⟩ := HROW.out k hlt
        obtain ⟨ao3, b3, o3, c3, H3⟩ := hr1.open
        have hv3 := H3.val
        subst hv3
        replace dr := below_cell hbwq dr
        have ldr := block_lt_of_cell dr
        have A3 := H3.adr
        have hr10 := HL10.out k hlt
        have HAT := Lib.hid (fun j (hj : j < (xss.getD k []).length) => H3.at hj)
        have HNX := Lib.hid (HCT.out k hlt)
        obtain ⟨row, hrow⟩ : ∃ row, row = xss.getD k [] := ⟨_, rfl⟩
        rw [← hrow] at dr A3 HAT hr10 HNX
        have HRT := Lib.hid (fun j (hj : j < row.length) => coRow_take (r := row) hj)
        have HRL := Lib.hid (coRow_len row)
        clear hrow hr1 H3
        have HE := Lib.hid (ownRows_empty wq wq.heap.size (Nat.le_refl _))
        have hbe : Below wq.heap.size wq (wq.alloc (.cells #[] 55)) := below_alloc (Below.refl _ _) _
        go_wp2
        go_loopw [7, 28] (fun u i wr => ∃ j : Nat, j ≤ row.length ∧ i = .int .i64 j ∧ Hid (∃ rss, OwnRows wr wq.heap.size u rss ((coRow row).take j)) ∧ Below wq.heap.size wq wr) (fun _ i _ => row.length - (intOf i).toNat)
        case atStart => exact ⟨0, Nat.zero_le _, rfl, ⟨[], HE.out⟩, hbe⟩
        case round =>
          obtain ⟨j, hj, rfl, HU, hbs⟩ := hrel
          obtain ⟨rss, hu⟩ := HU.out
          obtain ⟨au, mu, cu, rfl, HMu⟩ := own_shape hu.outer
          have hx := Below.cellOf hbs x1 (by omega)
          have hdr := Below.cellOf hbs dr (by omega)
          have lhx := block_lt_of_cell hx
          have lhd := block_lt_of_cell hdr
          have HUU := Lib.hid hu
          have hjl : ((coRow row).take j).length = j := by rw [List.length_take, HRL.out]; omega
          have hou := hu.outer
          rw [hjl] at hou
          have HOU := Lib.hid hou
          have HJL := Lib.hid hjl
          have hsz : wq.heap.size ≤ wr.heap.size := hbs.size
          clear hu hou hjl
          by_cases hjt : j < row.length
          · have i2 := idx_of Try.underlying55 size1_int (c := c3) A3 hjt .i64
            obtain ⟨z, hz, dz⟩ := HAT.out j hjt
            replace dz := below_cell (below_trans hbwq hbs) dz
            have ldz := block_lt_of_cell dz
            have HNJ := Lib.hid (HRT.out j hjt)
            rw [hz] at HNJ
            have HES := Lib.hid (own_empty wr wr.heap.size (Nat.le_refl _) 2)
            clear hz
            go_upto_region 12 with fail
            have hes := HES.out
            have hbS : Below wr.heap.size wr (wr.alloc (.cells #[] 2)) := below_alloc (Below.refl _ _) _
            generalize hsv : Value.slice (some ⟨wr.heap.size, 0, none⟩) 0 0 = sv at hes ⊢
            obtain ⟨aS, mS, cS, rfl, HMS⟩ := own_shape hes
            generalize wr.alloc (.cells #[] 2) = wS at hes hbS ⊢
            replace hx := below_cell hbS hx
            replace hdr := below_cell hbS hdr
            replace dz := below_cell hbS dz
            replace lhx := block_lt_of_cell hx
            replace lhd := block_lt_of_cell hdr
            replace ldz := block_lt_of_cell dz
            have HES2 := Lib.hid hes
            have hszS : wr.heap.size ≤ wS.heap.size := hbS.size
            clear hsv hes HES
            by_cases hz0 : z < 0
            · have HCS : Hid (coSet z = []) := by unfold Hid coSet; rw [if_pos hz0]
              have hzd : decide (0 ≤ z) = false := decide_eq_false (by omega)
              go_wp2_with (at_builtin; refine wpList_push elem_ints rfl (.tmp 39) (.tmp 41) rfl wq.heap.size (v := .slice au mu cu) rfl (own_below HOU.out hbS) (.slice aS mS cS) rfl rfl (by unfold maxLen; omega) (by omega) (by omega) ?_; intro v6 w6 ho6 hg6 hs6)
              have hra := (HUU.out.below hbS).append hg6 (by rw [HJL.out]; exact ho6) (ys := []) (own_lo HES2.out hsz) (fun i hi => apart_symm (apart_newer0 (HUU.out.row i hi) HES2.out (Nat.le_refl _)))
              rw [← HCS.out, HNJ.out] at hra
              have HRA := Lib.hid hra
              have hb6 : Below wq.heap.size wq w6 := (hbs.trans (hbS.mono hsz)).grown hg6 (by omega) (fun g hg => (own_block HOU.out hg).1)
              clear hra ho6 hg6 hs6
              go_wp2
              go_roundw
              case rel => exact ⟨j + 1, by omega, by go_num, ⟨_, HRA.out⟩, hb6⟩
              case measure => simp [intOf]; omega
            · have HCS : Hid (coSet z = [z]) := by unfold Hid coSet; rw [if_neg hz0]
              have hzd : decide (0 ≤ z) = true := decide_eq_true (by omega)
              go_wp2_with (at_builtin; first | (refine wpList_push elem_int rfl (.tmp 35) (.tmp 37) rfl wr.heap.size (v := .slice aS mS cS) rfl HES2.out (.int .i64 z) rfl rfl (by unfold maxLen; omega) (by omega) hszS ?_; intro v5 w5 ho5 hg5 hs5; obtain ⟨a5, m5, c5, rfl, HM5⟩ := own_shape ho5; have hb5 : Below wr.heap.size wr w5 := hbS.grown hg5 hszS (fun g hg => (own_block HES2.out hg).1); have HO5 := Lib.hid ho5; have hsz5 : wr.heap.size ≤ w5.heap.size := hb5.size; clear ho5 hg5 hs5) | (refine wpList_push elem_ints rfl (.tmp 39) (.tmp 41) rfl wq.heap.size (v := .slice au mu cu) rfl (own_below HOU.out hb5) (.slice a5 m5 c5) rfl rfl (by unfold maxLen; omega) (by omega) (by omega) ?_; intro v6 w6 ho6 hg6 hs6))
              have hra := (HUU.out.below hb5).append hg6 (by rw [HJL.out]; exact ho6) (ys := [z]) (own_lo HO5.out hsz) (fun i hi => apart_symm (apart_newer0 (HUU.out.row i hi) HO5.out (Nat.le_refl _)))
              rw [← HCS.out, HNJ.out] at hra
              have HRA := Lib.hid hra
              have hb6 : Below wq.heap.size wq w6 := (hbs.trans (hb5.mono hsz)).grown hg6 (by omega) (fun g hg => (own_block HOU.out hg).1)
              clear hra ho6 hg6 hs6
              go_wp2
              go_roundw
              case rel => exact ⟨j + 1, by omega, by go_num, ⟨_, HRA.out⟩, hb6⟩
              case measure => simp [intOf]; omega
          · obtain rfl : j = row.length := by omega
            obtain ⟨v0, rs0, k0, k1, f1, hcub⟩ := HC.out
            obtain ⟨a0, m0, c0, rfl, HM0⟩ := own_shape hcub.outer
            have n0 := below_cell hbs k0
            have n1 := below_cell hbs k1
            have n2 := (hbs.frozen (p := ⟨w2.heap.size, 1, none⟩) (block_lt_of_cell k1)).trans f1
            have ln := block_lt_of_cell n1
            have hkl : ((coCube xss).take k).length = k := by rw [List.length_take, HCL.out]; omega
            have hcu := hcub.outer
            rw [hkl] at hcu
            have HCU := Lib.hid (own_below hcu hbs)
            have HCB := Lib.hid hcub
            have HK := Lib.hid (And.intro k0 (And.intro k1 f1))
            have HKL := Lib.hid hkl
            have hlow : w2.heap.size + 1 ≤ wr.heap.size := ln
            have hrr := HUU.out
            rw [List.take_of_length_le (by rw [HRL.out]; omega)] at hrr
            have HRR := Lib.hid hrr
            clear hcub hcu hkl k0 k1 f1 hrr
            go_wp2_with (at_builtin; refine wpList_push elem_cube rfl (.tmp 45) (.tmp 47) rfl (w2.heap.size + 1) (v := .slice a0 m0 c0) rfl HCU.out (.slice au mu cu) rfl rfl (by unfold maxLen; omega) (by omega) hlow ?_; intro v6 w6 ho6 hg6 hs6; obtain ⟨a6, m6, c6, rfl, HM6⟩ := own_shape ho6; have r1 := grown_cell hg6 HCU.out (Nat.lt_succ_self _) n1; have r2 := grown_frozen hg6 HCU.out (Nat.lt_succ_self _) n1 n2; have lr := block_lt_of_cell r1)
            have hp := CAt.push HK.out.1 HK.out.2.1 HK.out.2.2 HCB.out hbs HRR.out (Below.refl _ _) (by rw [HKL.out]; exact ho6) hg6 hs6
            rw [HNX.out] at hp
            have HP := Lib.hid hp
            have hb7 : Below w2.heap.size w2 (w6.setCell ⟨w2.heap.size, 1, none⟩ (.slice a6 m6 c6)) := (Below.grown (hbo.trans (hbs.mono (by omega))) hg6 (by omega) (fun g hg => by have := own_block HCU.out hg; omega)).setCell (p := ⟨w2.heap.size, 1, none⟩) (Nat.le_refl _) _
            clear hp ho6 hg6 hs6
            go_wp2
            go_roundw
            case rel => exact ⟨k + 1, by omega, by go_num, HP.out, hb7, by simp; omega⟩
            case measure => simp [intOf]; omega
      · obtain rfl : k = xss.length := by omega
        obtain ⟨v0, rs0, k0, k1, f1, hcub⟩ := HC.out
        obtain ⟨a0, m0, c0, rfl, HM0⟩ := own_shape hcub.outer
        rw [List.take_of_length_le (by rw [HCL.out]; omega)] at hcub
        have HCB := Lib.hid hcub
        have y4 := Below.cellOf hbo q4 (by omega)
        have y5 := Below.cellOf hbo q5 (by omega)
        have z4 := (hbo.frozen (p := ⟨w.heap.size + 1, 0, none⟩) (by show w.heap.size + 1 < w2.heap.size; omega)).trans f4
        have z5 := (hbo.frozen (p := ⟨w.heap.size + 1, 1, none⟩) (by show w.heap.size + 1 < w2.heap.size; omega)).trans f5
        have lk := block_lt_of_cell k0
        have ly := block_lt_of_cell y4
        clear hcub f1
        go_wp2
        refine bodyPost_ret (v := .tuple #[.agg #[.int .i64 st, .slice a0 m0 c0], .int .i64 0]) (by simp [results, Try.results11, go_sem, y4, y5, ly]) rfl ⟨_, rs0, rfl, ?_, ?_⟩
        · exact ((((HCB.out.set_below (by omega) _ _).set_below (by omega) _ _).mono (by omega))).upto
        · repeat (first | exact hbwq | refine below_set ?_ (by omega) _ _)

set_option maxRecDepth 100000 in
set_option maxHeartbeats 4000000 in
theorem specChoiceOf_any (st : Int) (v : Value) (xss : List (List Int)) (w : World) (h1 : Rows2 w v xss) :
    Calls Try.prog 9 #[.agg #[.int .i64 st, v]] w (NewChoice2 (coSt st xss) (coZs st xss) (coCd st xss) w) := by
  obtain ⟨ao, p1, o1, c, H1⟩ := h1.open
  have hv1 := H1.val
  subst hv1
  have A1 := H1.adr
  have hm := H1.len
  have HROW := Lib.hid H1.cell
  obtain ⟨W2, hW2⟩ : ∃ W2, W2 = (w.alloc (.cells #[.int .i64 st, .slice ao xss.length c] 31)).alloc (.cells #[.int .i64 0, .slice none 0 0] 28) := ⟨_, rfl⟩
  have bx : Below w.heap.size w W2 := by rw [hW2]; exact below_alloc (below_alloc (Below.refl _ _) _) _
  have p0 : W2.cell? ⟨w.heap.size, 0, none⟩ = some (.int .i64 st) := by rw [hW2]; go_simp
  have p1' : W2.cell? ⟨w.heap.size, 1, none⟩ = some (.slice ao xss.length c) := by rw [hW2]; go_simp
  have p4 : W2.cell? ⟨w.heap.size + 1, 0, none⟩ = some (.int .i64 0) := by rw [hW2]; go_simp
  have p5 : W2.cell? ⟨w.heap.size + 1, 1, none⟩ = some (.slice none 0 0) := by rw [hW2]; go_simp
  have g4 : W2.frozen? ⟨w.heap.size + 1, 0, none⟩ = false := by rw [hW2]; go_simp
  have g5 : W2.frozen? ⟨w.heap.size + 1, 1, none⟩ = false := by rw [hW2]; go_simp
  have HOK := Lib.hid (l04Ok_any w.heap.size 0 st _ xss W2 p0 p1' (h1.kept bx))
  cases hv : validP st xss
  · rw [show coSt st xss = 0 by simp [coSt, hv], show coZs st xss = [] by simp [coZs, hv], show coCd st xss = 1 by simp [coCd, hv]]
    rw [hv] at HOK
    subst hW2
    clear hv h1 H1
    go_enter Try.func9, Try.ntmps9
    go_wp2_with fail
    refine HOK.out.mono ?_
    rintro e w2 ⟨rfl, hqq⟩
    have hb := hqq.below ((w.alloc (.cells #[.int .i64 st, .slice ao xss.length c] 31)).alloc (.cells #[.int .i64 0, .slice none 0 0] 28)).heap.size
    have q4 := below_cell hb p4
    have q5 := below_cell hb p5
    have f4 := (hb.frozen (p := ⟨w.heap.size + 1, 0, none⟩) (block_lt_of_cell p4)).trans g4
    have f5 := (hb.frozen (p := ⟨w.heap.size + 1, 1, none⟩) (block_lt_of_cell p5)).trans g5
    have hz9 : w.heap.size + 1 < w2.heap.size := block_lt_of_cell q4
    have HBB := Lib.hid (below_trans bx hb)
    go_wp2
    exact bodyPost_ret (v := .tuple #[.agg #[.int .i64 0, .slice none 0 0], .int .i64 1]) (by simp [results, Try.results9, go_sem, q4, q5, hz9]) rfl ⟨_, [], rfl, (cubeIn_nil _ _), by repeat (first | exact HBB.out | refine below_set ?_ (by omega) _ _)⟩
  · rw [show coSt st xss = st by simp [coSt, hv], show coZs st xss = coCube xss by simp [coZs, hv], show coCd st xss = 0 by simp [coCd, hv]]
    rw [hv] at HOK
    obtain ⟨hl3, hl10⟩ := validP_rows hv
    have HL10 := Lib.hid (fun k (hk : k < xss.length) => hl10 _ (show xss.getD k [] ∈ xss by rw [List.getD_eq_getElem?_getD, List.getElem?_eq_getElem hk]; exact List.getElem_mem hk))
    have HCT := Lib.hid (fun k (hk : k < xss.length) => coCube_take (xss := xss) hk)
    have HCL := Lib.hid (coCube_len xss)
    subst hW2
    clear hv h1 H1 hl10
    go_enter Try.func9, Try.ntmps9
    go_wp2_with fail
    refine HOK.out.mono ?_
    rintro e w2 ⟨rfl, hqq⟩
    have hb := hqq.below ((w.alloc (.cells #[.int .i64 st, .slice ao xss.length c] 31)).alloc (.cells #[.int .i64 0, .slice none 0 0] 28)).heap.size
    have hbw2 : Below w.heap.size w w2 := below_trans bx hb
    have e0 := below_cell hb p0
    have e1 := below_cell hb p1'
    have le0 : w.heap.size < w2.heap.size := block_lt_of_cell e0
    have q4 := below_cell hb p4
    have q5 := below_cell hb p5
    have f4 := (hb.frozen (p := ⟨w.heap.size + 1, 0, none⟩) (block_lt_of_cell p4)).trans g4
    have f5 := (hb.frozen (p := ⟨w.heap.size + 1, 1, none⟩) (block_lt_of_cell p5)).trans g5
    have hz9 : w.heap.size + 1 < w2.heap.size := block_lt_of_cell q4
    have HC0 : Hid (CAt (w2.alloc (.cells #[.int .i64 st, .slice none 0 0] 28)) w2.heap.size st ((coCube xss).take 0)) := ⟨_, [], by go_simp, by go_simp, by go_simp, cubeIn_nil _ _⟩
    have HB0 : Hid (Below w2.heap.size w2 (w2.alloc (.cells #[.int .i64 st, .slice none 0 0] 28))) := below_alloc (Below.refl _ _) _
    clear p0 p1' p4 p5 g4 g5
    go_wp2
    go_loopw [5] (fun i wr => ∃ k : Nat, k ≤ xss.length ∧ i = .int .i64 k ∧ Hid (CAt wr w2.heap.size st ((coCube xss).take k)) ∧ Below w2.heap.size w2 wr ∧ w2.heap.size < wr.heap.size) (fun i _ => xss.length - (intOf i).toNat)
    case atStart => exact ⟨0, Nat.zero_le _, rfl, HC0.out, HB0.out, by simp⟩
    case round =>
      obtain ⟨k, hk, rfl, HC, hbo, hlo⟩ := hrel
      obtain ⟨wq, rfl⟩ : ∃ wq : World, wq = wr := ⟨_, rfl⟩
      have x1 := Below.cellOf hbo e1 (by omega)
      have hbwq : Below w.heap.size w wq := hbw2.trans (hbo.mono (by omega))
      have lx := block_lt_of_cell x1
      by_cases hlt : k < xss.length
      · have i1 := idx_of Try.underlying22 size1_ints (c := c) A1 hlt .i64
        obtain ⟨r1, dr, hr1⟩ := HROW.out k hlt
        obtain ⟨ao3, b3, o3, c3, H3⟩ := hr1.open
        have hv3 := H3.val
        subst hv3
        replace dr := below_cell hbwq dr
        have ldr := block_lt_of_cell dr
        have A3 := H3.adr
        have hr10 := HL10.out k hlt
        have HAT := Lib.hid (fun j (hj : j < (xss.getD k []).length) => H3.at hj)
        have HNX := Lib.hid (HCT.out k hlt)
        obtain ⟨row, hrow⟩ : ∃ row, row = xss.getD k [] := ⟨_, rfl⟩
        rw [← hrow] at dr A3 HAT hr10 HNX
        have HRT := Lib.hid (fun j (hj : j < row.length) => coRow_take (r := row) hj)
        have HRL := Lib.hid (coRow_len row)
        clear hrow hr1 H3
        have HE := Lib.hid (ownRows_empty wq wq.heap.size (Nat.le_refl _))
        have hbe : Below wq.heap.size wq (wq.alloc (.cells #[] 55)) := below_alloc (Below.refl _ _) _
        go_wp2
        go_loopw [6, 7] (fun u i wr => ∃ j : Nat, j ≤ row.length ∧ i = .int .i64 j ∧ Hid (∃ rss, OwnRows wr wq.heap.size u rss ((coRow row).take j)) ∧ Below wq.heap.size wq wr) (fun _ i _ => row.length - (intOf i).toNat)
        case atStart => exact ⟨0, Nat.zero_le _, rfl, ⟨[], HE.out⟩, hbe⟩
        case round =>
          obtain ⟨j, hj, rfl, HU, hbs⟩ := hrel
          obtain ⟨rss, hu⟩ := HU.out
          obtain ⟨au, mu, cu, rfl, HMu⟩ := own_shape hu.outer
          have hx := Below.cellOf hbs x1 (by omega)
          have hdr := Below.cellOf hbs dr (by omega)
          have lhx := block_lt_of_cell hx
          have lhd := block_lt_of_cell hdr
          have HUU := Lib.hid hu
          have hjl : ((coRow row).take j).length = j := by rw [List.length_take, HRL.out]; omega
          have hou := hu.outer
          rw [hjl] at hou
          have HOU := Lib.hid hou
          have HJL := Lib.hid hjl
          have hsz : wq.heap.size ≤ wr.heap.size := hbs.size
          clear hu hou hjl
          by_cases hjt : j < row.length
          · have i2 := idx_of Try.underlying55 size1_int (c := c3) A3 hjt .i64
            obtain ⟨z, hz, dz⟩ := HAT.out j hjt
            replace dz := below_cell (below_trans hbwq hbs) dz
            have ldz := block_lt_of_cell dz
            have HNJ := Lib.hid (HRT.out j hjt)
            rw [hz] at HNJ
            have HES := Lib.hid (own_empty wr wr.heap.size (Nat.le_refl _) 2)
            clear hz
            go_upto_region 12 with fail
            have hes := HES.out
            have hbS : Below wr.heap.size wr (wr.alloc (.cells #[] 2)) := below_alloc (Below.refl _ _) _
            generalize hsv : Value.slice (some ⟨wr.heap.size, 0, none⟩) 0 0 = sv at hes ⊢
            obtain ⟨aS, mS, cS, rfl, HMS⟩ := own_shape hes
            generalize wr.alloc (.cells #[] 2) = wS at hes hbS ⊢
            replace hx := below_cell hbS hx
            replace hdr := below_cell hbS hdr
            replace dz := below_cell hbS dz
            replace lhx := block_lt_of_cell hx
            replace lhd := block_lt_of_cell hdr
            replace ldz := block_lt_of_cell dz
            have HES2 := Lib.hid hes
            have hszS : wr.heap.size ≤ wS.heap.size := hbS.size
            clear hsv hes HES
            by_cases hz0 : z < 0
            · have HCS : Hid (coSet z = []) := by unfold Hid coSet; rw [if_pos hz0]
              have hzd : decide (0 ≤ z) = false := decide_eq_false (by omega)
              go_wp2_with (at_builtin; refine wpList_push elem_ints rfl (.tmp 54) (.tmp 56) rfl wq.heap.size (v := .slice au mu cu) rfl (own_below HOU.out hbS) (.slice aS mS cS) rfl rfl (by unfold maxLen; omega) (by omega) (by omega) ?_; intro v6 w6 ho6 hg6 hs6)
              have hra := (HUU.out.below hbS).append hg6 (by rw [HJL.out]; exact ho6) (ys := []) (own_lo HES2.out hsz) (fun i hi => apart_symm (apart_newer0 (HUU.out.row i hi) HES2.out (Nat.le_refl _)))
              rw [← HCS.out, HNJ.out] at hra
              have HRA := Lib.hid hra
              have hb6 : Below wq.heap.size wq w6 := (hbs.trans (hbS.mono hsz)).grown hg6 (by omega) (fun g hg => (own_block HOU.out hg).1)
              clear hra ho6 hg6 hs6
              go_wp2
              go_roundw
              case rel => exact ⟨j + 1, by omega, by go_num, ⟨_, HRA.out⟩, hb6⟩
              case measure => simp [intOf]; omega
            · have HCS : Hid (coSet z = [z]) := by unfold Hid coSet; rw [if_neg hz0]
              have hzd : decide (0 ≤ z) = true := decide_eq_true (by omega)
              go_wp2_with (at_builtin; first | (refine wpList_push elem_int rfl (.tmp 43) (.tmp 52) rfl wr.heap.size (v := .slice aS mS cS) rfl HES2.out (.int .i64 z) rfl rfl (by unfold maxLen; omega) (by omega) hszS ?_; intro v5 w5 ho5 hg5 hs5; obtain ⟨a5, m5, c5, rfl, HM5⟩ := own_shape ho5; have hb5 : Below wr.heap.size wr w5 := hbS.grown hg5 hszS (fun g hg => (own_block HES2.out hg).1); have HO5 := Lib.hid ho5; have hsz5 : wr.heap.size ≤ w5.heap.size := hb5.size; clear ho5 hg5 hs5) | (refine wpList_push elem_ints rfl (.tmp 54) (.tmp 56) rfl wq.heap.size (v := .slice au mu cu) rfl (own_below HOU.out hb5) (.slice a5 m5 c5) rfl rfl (by unfold maxLen; omega) (by omega) (by omega) ?_; intro v6 w6 ho6 hg6 hs6))
              have hra := (HUU.out.below hb5).append hg6 (by rw [HJL.out]; exact ho6) (ys := [z]) (own_lo HO5.out hsz) (fun i hi => apart_symm (apart_newer0 (HUU.out.row i hi) HO5.out (Nat.le_refl _)))
              rw [← HCS.out, HNJ.out] at hra
              have HRA := Lib.hid hra
              have hb6 : Below wq.heap.size wq w6 := (hbs.trans (hb5.mono hsz)).grown hg6 (by omega) (fun g hg => (own_block HOU.out hg).1)
              clear hra ho6 hg6 hs6
              go_wp2
              go_roundw
              case rel => exact ⟨j + 1, by omega, by go_num, ⟨_, HRA.out⟩, hb6⟩
              case measure => simp [intOf]; omega
          · obtain rfl : j = row.length := by omega
            obtain ⟨v0, rs0, k0, k1, f1, hcub⟩ := HC.out
            obtain ⟨a0, m0, c0, rfl, HM0⟩ := own_shape hcub.outer
            have n0 := below_cell hbs k0
            have n1 := below_cell hbs k1
            have n2 := (hbs.frozen (p := ⟨w2.heap.size, 1, none⟩) (block_lt_of_cell k1)).trans f1
            have ln := block_lt_of_cell n1
            have hkl : ((coCube xss).take k).length = k := by rw [List.length_take, HCL.out]; omega
            have hcu := hcub.outer
            rw [hkl] at hcu
            have HCU := Lib.hid (own_below hcu hbs)
            have HCB := Lib.hid hcub
            have HK := Lib.hid (And.intro k0 (And.intro k1 f1))
            have HKL := Lib.hid hkl
            have hlow : w2.heap.size + 1 ≤ wr.heap.size := ln
            have hrr := HUU.out
            rw [List.take_of_length_le (by rw [HRL.out]; omega)] at hrr
            have HRR := Lib.hid hrr
            clear hcub hcu hkl k0 k1 f1 hrr
            go_wp2_with (at_builtin; refine wpList_push elem_cube rfl (.tmp 59) (.tmp 61) rfl (w2.heap.size + 1) (v := .slice a0 m0 c0) rfl HCU.out (.slice au mu cu) rfl rfl (by unfold maxLen; omega) (by omega) hlow ?_; intro v6 w6 ho6 hg6 hs6; obtain ⟨a6, m6, c6, rfl, HM6⟩ := own_shape ho6; have r1 := grown_cell hg6 HCU.out (Nat.lt_succ_self _) n1; have r2 := grown_frozen hg6 HCU.out (Nat.lt_succ_self _) n1 n2; have lr := block_lt_of_cell r1)
            have hp := CAt.push HK.out.1 HK.out.2.1 HK.out.2.2 HCB.out hbs HRR.out (Below.refl _ _) (by rw [HKL.out]; exact ho6) hg6 hs6
            rw [HNX.out] at hp
            have HP := Lib.hid hp
            have hb7 : Below w2.heap.size w2 (w6.setCell ⟨w2.heap.size, 1, none⟩ (.slice a6 m6 c6)) := (Below.grown (hbo.trans (hbs.mono (by omega))) hg6 (by omega) (fun g hg => by have := own_block HCU.out hg; omega)).setCell (p := ⟨w2.heap.size, 1, none⟩) (Nat.le_refl _) _
            clear hp ho6 hg6 hs6
            go_wp2
            go_roundw
            case rel => exact ⟨k + 1, by omega, by go_num, HP.out, hb7, by simp; omega⟩
            case measure => simp [intOf]; omega
      · obtain rfl : k = xss.length := by omega
        obtain ⟨v0, rs0, k0, k1, f1, hcub⟩ := HC.out
        obtain ⟨a0, m0, c0, rfl, HM0⟩ := own_shape hcub.outer
        rw [List.take_of_length_le (by rw [HCL.out]; omega)] at hcub
        have HCB := Lib.hid hcub
        have y4 := Below.cellOf hbo q4 (by omega)
        have y5 := Below.cellOf hbo q5 (by omega)
        have z4 := (hbo.frozen (p := ⟨w.heap.size + 1, 0, none⟩) (by show w.heap.size + 1 < w2.heap.size; omega)).trans f4
        have z5 := (hbo.frozen (p := ⟨w.heap.size + 1, 1, none⟩) (by show w.heap.size + 1 < w2.heap.size; omega)).trans f5
        have lk := block_lt_of_cell k0
        have ly := block_lt_of_cell y4
        clear hcub f1
        go_wp2
        refine bodyPost_ret (v := .tuple #[.agg #[.int .i64 st, .slice a0 m0 c0], .int .i64 0]) (by simp [results, Try.results9, go_sem, y4, y5, ly]) rfl ⟨_, rs0, rfl, ?_, ?_⟩
        · exact ((((HCB.out.set_below (by omega) _ _).set_below (by omega) _ _).mono (by omega))).upto
        · repeat (first | exact hbwq | refine below_set ?_ (by omega) _ _)

end Go.Proofs.Ytocdkeidjocmkaa
