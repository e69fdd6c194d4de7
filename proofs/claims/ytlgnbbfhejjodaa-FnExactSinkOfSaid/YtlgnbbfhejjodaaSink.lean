/- SinkOf, of the reference and of the program. -/
import Derived.Test.YtlgnbbfhejjodaaConn
import Derived.Shelf.SlicesE.DeleteFunc
import Derived.Test.YtlgnbbfhejjodaaLayG
namespace Go.Proofs.Ytlgnbbfhejjodaa
set_option linter.unusedVariables false
set_option linter.unusedSimpArgs false
open Go.ChangeShapes Go.WideShapes Go.ChangeAt Go.RowKit Go.Shelf Go.Sort

set_option maxHeartbeats 1000000 in
theorem sinkLit_any (pb : Nat) (v : Value) (zs : List Int) (z : Int) (W : World) (hc : W.cell? ⟨pb, 0, none⟩ = some v) (h1 : Ints W v zs) :
    Go.Proofs.FnGives Try.prog 132 #[.pointer (some ⟨pb, 0, none⟩)] #[.int .i64 z] (.bool (!zs.contains z)) W := by
  show Calls Try.prog 132 #[.int .i64 z, .pointer (some ⟨pb, 0, none⟩)] W _
  obtain ⟨ao, m, c, rfl, HM⟩ := h1.shape
  have HC := Lib.hid (contains_any _ zs z W h1)
  generalize zs.contains z = bb at HC ⊢
  have hl := block_lt_of_cell hc
  clear h1
  go_enter Try.func132, Try.ntmps132
  go_wp2_with fail
  refine HC.out.mono ?_
  rintro e w1 ⟨rfl, rfl⟩
  cases bb
  · go_wp2
    go_ret
    exact ⟨rfl, 0, rfl⟩
  · go_wp2
    go_ret
    exact ⟨rfl, 0, rfl⟩

/-- the numbers of a list that are in another one -/
theorem deleteNot_any (g c pb lo : Nat) (ow : Value) (zs os : List Int) (w : World) (ho : w.ownsRow lo 2 1 (.slice (some ⟨g, 0, none⟩) zs.length c) zs.length (zs.map (Value.int .i64))) (hl : zs.length ≤ 1048576)
    (hp : w.cell? ⟨pb, 0, none⟩ = some ow) (hpg : pb ≠ g) {ao : Option Addr} {b o cc : Nat} (H : IntsAt w ow os ao b o cc) (hog : b ≠ g) :
    Calls Try.prog 131 #[.slice (some ⟨g, 0, none⟩) zs.length c, .func (.func 132) #[] #[.pointer (some ⟨pb, 0, none⟩)]] w
      fun e w' => ∃ c', e = .returned (.slice (some ⟨g, 0, none⟩) (zs.filter fun z => os.contains z).length c') ∧ w'.ownsRow lo 2 1 (.slice (some ⟨g, 0, none⟩) (zs.filter fun z => os.contains z).length c') (zs.filter fun z => os.contains z).length ((zs.filter fun z => os.contains z).map (Value.int .i64)) ∧ Below lo w w' := by
  obtain ⟨g1, cap, e, hg1, hg2, hn, hm, _, hH⟩ := Lib.holds_of_ownsRow ho (by intro h; cases h)
  injection e with e1 _ e3
  injection e1 with e1
  injection e1 with e1
  subst e1; subst e3
  have hpl := block_lt_of_cell hp
  have h := AnyE.slices_DeleteFunc Try.ldelfun (Value.int .i64) (fun _ => rfl) (fun z => !os.contains z) 132 #[.pointer (some ⟨pb, 0, none⟩)] (fun _ _ => by kernel_rfl) 0 (fun _ => by kernel_rfl) g 0 c zs.toArray w
    (fun W x hb => sinkLit_any pb ow os x W ((hb.cell (p := ⟨pb, 0, none⟩) hpl).trans hp) (H.shut.kept hb))
    (fun n oss dk x _ => by
      have hcell : ∀ b o u, b ≠ g → w.cell? ⟨b, o, none⟩ = some u → (Go.Proofs.sortWorld (Value.int .i64) w g 0 n dk oss).cell? ⟨b, o, none⟩ = some u := fun b o u hb hu => by
        have hlt := block_lt_of_cell hu
        unfold Go.Proofs.sortWorld
        rw [cell?_grow _ _ _ (by show b < (putRow _ _ _ _ _).heap.size; rw [size_putRow]; exact hlt), cell?_putRow_other _ _ g 0 _ _ (Or.inl hb)]
        exact hu
      refine sinkLit_any pb ow os x _ (hcell _ _ _ hpg hp) ?_
      exact IntsAt.shut ⟨H.val, H.adr, fun k hk => hcell _ _ _ hog (H.cell k hk), H.len⟩)
    hH (by simp; omega) (by simpa using hn)
  have ef : (zs.filter fun z => !(!os.contains z)) = zs.filter fun z => os.contains z := by simp
  simp only [List.size_toArray] at h
  refine h.mono ?_
  rw [ef]
  rintro e w' ⟨rfl, n, rfl⟩
  refine ⟨c, rfl, ?_, Lib.below_putRow (q := n) (Below.refl lo w) hg1⟩
  have hfl : (zs.filter fun z => os.contains z).length ≤ zs.length := List.length_filter_le _ _
  have h2 := Lib.ownsRow_putRow (q := n) (ys := (zs.filter fun z => os.contains z) ++ List.replicate (zs.length - (zs.filter fun z => os.contains z).length) 0) (k := (zs.filter fun z => os.contains z).length) ho (by rw [List.length_append, List.length_replicate]; omega) hfl
  rw [List.take_left] at h2
  exact h2

theorem intsAt_of_own {w : World} {lo g c : Nat} {zs : List Int} (h : w.ownsRow lo 2 1 (.slice (some ⟨g, 0, none⟩) zs.length c) zs.length (zs.map (Value.int .i64))) (hl : zs.length ≤ 1048576) : IntsAt w (.slice (some ⟨g, 0, none⟩) zs.length c) zs (some ⟨g, 0, none⟩) g 0 c :=
  ⟨rfl, fun _ => rfl, fun k hk => by rw [Nat.zero_add, h.cellAt k (by omega)]; simp [List.getD_eq_getElem?_getD, hk], by omega⟩
theorem IntsAt.kept {w w' : World} {v : Value} {zs : List Int} {ao : Option Addr} {b o c : Nat} (h : IntsAt w v zs ao b o c) (hb : Below w.heap.size w w') : IntsAt w' v zs ao b o c :=
  ⟨h.val, h.adr, fun k hk => below_cell hb (h.cell k hk), h.len⟩
theorem rTo_pos (xss : List (List Int)) (s : Int) : ∀ i, 0 < (rTo xss s i).length := by
  intro i
  induction i with
  | zero => simp [rTo]
  | succ i ih =>
    rw [rTo]
    split
    · have := rRow_len xss ((rTo xss s i).getD i 0) (rTo xss s i) xss.length
      omega
    · exact ih
theorem rcZs_pos {st : Int} {n : Nat} {xss : List (List Int)} (hg : Good st n xss) {s : Int} (hs : 0 ≤ s ∧ s < n) : 0 < (rcZs xss s).length := by
  rw [rcZs, putAll_len (reach_dist hg hs).nd]
  exact rTo_pos xss s 1024

/-- the states of the sink -/
def skL (st : Int) (xss : List (List Int)) : List Int := if validB st xss = true then skZs xss st.toNat else []
def skCd (st : Int) (xss : List (List Int)) : Int := if validB st xss = true then (if (skZs xss st.toNat).length = 0 then 6 else 0) else 1
theorem skL_len (st : Int) (xss : List (List Int)) : (skL st xss).length ≤ 1024 := by
  unfold skL
  split
  · rename_i hv
    obtain ⟨n, hg⟩ := good_of hv
    have := hg.hi
    have e : st.toNat = n := by have := hg.st; omega
    have := skZs_len xss n
    rw [e]; omega
  · simp

set_option maxRecDepth 100000 in
set_option maxHeartbeats 4000000 in
theorem sink_any (v : Value) (xss : List (List Int)) (n : Nat) (w : World) (h1 : Rows2 w v xss) (hg : Good n n xss) :
    Calls Try.prog 94 #[.agg #[.int .i64 n, v]] w (NewInts (skZs xss n) w) := by
  have hn10 := hg.hi
  have hn1 := hg.lo
  obtain ⟨ao, m, c, rfl, HM⟩ := h1.shape
  have HRE := Lib.hid (fun (s : Nat) (hs : s < n) W (hW : Below w.heap.size w W) => reached_any n _ xss n s W (h1.kept hW) hg ⟨by omega, by omega⟩)
  have HLE := Lib.hid (fun (s : Nat) (hs : s < n) => rcZs_len hg (s := (s : Int)) ⟨by omega, by omega⟩)
  have HPP := Lib.hid (fun (s : Nat) (hs : s < n) => rcZs_pos hg (s := (s : Int)) ⟨by omega, by omega⟩)
  have HP0 := Lib.hid (rcZs_pos hg (s := 0) ⟨by omega, by omega⟩)
  have HEND := Lib.hid (sk_from hg)
  have HSK := Lib.hid (fun k => skTo_succ xss (rcZs xss 0) k)
  have HSL := Lib.hid (fun k => skTo_le xss (rcZs xss 0) k)
  have HZ0 := Lib.hid (skTo_zero xss (rcZs xss 0))
  have HR0 := HRE.out 0 (by omega)
  have HL0 := HLE.out 0 (by omega)
  have bx : Below w.heap.size w (w.alloc (.cells #[.int .i64 n, .slice ao m c] 28)) := below_alloc (Below.refl _ _) _
  have HRX := Lib.hid (HR0 _ bx)
  have p0 : (w.alloc (.cells #[.int .i64 n, .slice ao m c] 28)).cell? ⟨w.heap.size, 0, none⟩ = some (.int .i64 n) := by go_simp
  have p1 : (w.alloc (.cells #[.int .i64 n, .slice ao m c] 28)).cell? ⟨w.heap.size, 1, none⟩ = some (.slice ao m c) := by go_simp
  rw [show ((0 : Nat) : Int) = 0 from rfl] at HRX HL0
  obtain ⟨R0, hR0⟩ : ∃ R0, R0 = rcZs xss 0 := ⟨_, rfl⟩
  rw [← hR0] at HRX HP0 HL0 HEND HSK HSL HZ0
  have HL1 := Lib.hid HL0
  clear h1 hg HR0 hR0 HL0
  go_enter Try.func94, Try.ntmps94
  go_wp2_with fail
  refine HRX.out.mono ?_
  rintro e w1 ⟨v1, rfl, ho1, hb1⟩
  have q0 := below_cell hb1 p0
  have q1 := below_cell hb1 p1
  have lq := block_lt_of_cell q0
  have bw1 := below_trans bx hb1
  obtain ⟨g, c1, rfl, _⟩ := own_some ho1 HP0.out
  have HO1 := Lib.hid (own_lo (lo' := w.heap.size + 1) ho1 (by simp))
  clear ho1
  go_wp2
  go_loopw [3, 10] (fun u i wr => ∃ s c : Nat, s ≤ n ∧ i = .int .i64 s ∧ u = .slice (some ⟨g, 0, none⟩) (skTo xss R0 s).length c ∧ Hid (wr.ownsRow (w.heap.size + 1) 2 1 (.slice (some ⟨g, 0, none⟩) (skTo xss R0 s).length c) (skTo xss R0 s).length ((skTo xss R0 s).map (Value.int .i64))) ∧ Below (w.heap.size + 1) w1 wr) (fun _ i _ => n - (intOf i).toNat)
  case atStart => exact ⟨0, c1, Nat.zero_le _, rfl, by rw [HZ0.out], by unfold Hid; rw [HZ0.out]; exact HO1.out, Below.refl _ _⟩
  case round =>
    obtain ⟨s, cc, hs, rfl, rfl, HO, hb⟩ := hrel
    have r0 := Below.cellOf hb q0 (by omega)
    have r1 := Below.cellOf hb q1 (by omega)
    have lr := block_lt_of_cell r0
    have hbw : Below w.heap.size w wr := bw1.trans (hb.mono (by omega))
    have hsl := HSL.out s
    have hl1 := HL1.out
    by_cases hlt : s < n
    · have HR := Lib.hid (HRE.out s hlt wr hbw)
      have HS2 := Lib.hid (HSK.out s)
      have HRP := HPP.out s hlt
      have HRM := Nat.le_trans (HLE.out s hlt) (show n ≤ 1048576 by omega)
      generalize skTo xss R0 s = Z at HO HS2 hsl ⊢
      generalize rcZs xss (s : Int) = R at HR HS2 HRP HRM
      have hzl : Z.length ≤ 1048576 := by omega
      clear hsl hl1
      go_wp2_with fail
      refine HR.out.mono ?_
      rintro e w4 ⟨v4, rfl, ho4, hb4⟩
      obtain ⟨g4, c4, rfl, _⟩ := own_some ho4 HRP
      have HZ4 := own_below HO.out hb4
      have hgw : g < wr.heap.size := (own_block HO.out rfl).2
      have hg4 : wr.heap.size ≤ g4 := (own_block ho4 rfl).1
      have hlw : w.heap.size + 1 ≤ w4.heap.size := by have := hb4.size; omega
      have HD := Lib.hid (deleteNot_any g cc w4.heap.size (w.heap.size + 1) (.slice (some ⟨g4, 0, none⟩) R.length c4) Z R (w4.alloc (.cells #[.slice (some ⟨g4, 0, none⟩) R.length c4] 32)) (HZ4.alloc _) hzl (by go_simp) (by have := hb4.size; omega)
        ((intsAt_of_own ho4 HRM).kept (below_alloc (Below.refl _ _) _)) (by omega))
      have hb5 : Below (w.heap.size + 1) w1 (w4.alloc (.cells #[.slice (some ⟨g4, 0, none⟩) R.length c4] 32)) := (hb.trans (hb4.mono (by omega))).alloc hlw _
      rw [← HS2.out] at HD
      clear ho4 HZ4
      go_wp2_with fail
      refine HD.out.mono ?_
      rintro e w6 ⟨c6, rfl, ho6, hb6⟩
      have HO6 := Lib.hid ho6
      have hb7 := hb5.trans hb6
      clear ho6
      go_wp2
      go_roundw
      case rel => exact ⟨s + 1, c6, by omega, by go_num, rfl, HO6.out, hb7⟩
      case measure => simp [intOf]; omega
    · obtain rfl : s = n := by omega
      rw [HEND.out] at HO ⊢
      have hz1 := bw1.size
      go_wp2
      go_ret
      exact ⟨_, rfl, own_lo HO.out (by omega), hbw⟩

set_option maxRecDepth 100000 in
set_option maxHeartbeats 4000000 in
theorem implSink_any (st : Int) (v : Value) (xss : List (List Int)) (w : World) (h1 : Rows2 w v xss) :
    Calls Try.prog 48 #[.agg #[.int .i64 st, v]] w (NewInts2 (skL st xss) (skCd st xss) w) := by
  obtain ⟨ao, m, c, rfl, HM⟩ := h1.shape
  obtain ⟨W1, hW1⟩ : ∃ W1, W1 = w.alloc (.cells #[.int .i64 st, .slice ao m c] 28) := ⟨_, rfl⟩
  have bx : Below w.heap.size w W1 := by rw [hW1]; exact below_alloc (Below.refl _ _) _
  have p0 : W1.cell? ⟨w.heap.size, 0, none⟩ = some (.int .i64 st) := by rw [hW1]; go_simp
  have p1 : W1.cell? ⟨w.heap.size, 1, none⟩ = some (.slice ao m c) := by rw [hW1]; go_simp
  have HV := Lib.hid (validAuto_any st _ xss W1 (h1.kept bx))
  cases hv : validB st xss
  · rw [show skL st xss = [] by simp [skL, hv], show skCd st xss = 1 by simp [skCd, hv]]
    rw [hv] at HV
    subst hW1
    clear hv h1
    go_enter Try.func48, Try.ntmps48
    go_wp2_with fail
    refine HV.out.mono ?_
    rintro e w2 ⟨rfl, hb⟩
    have hbb := below_trans bx hb
    go_wp2
    go_ret2
    exact ⟨_, rfl, World.ownsRow_nil _ _ _ _, hbb⟩
  · obtain ⟨n, hg⟩ := good_of hv
    obtain rfl := hg.st
    rw [show skL n xss = skZs xss n by simp [skL, hv], show skCd n xss = if (skZs xss n).length = 0 then 6 else 0 by simp [skCd, hv]]
    rw [hv] at HV
    have HC := Lib.hid (fun W (hW : Below W1.heap.size W1 W) => sink_any _ xss n W ((h1.kept bx).kept hW) hg)
    generalize skZs xss n = Z at HC ⊢
    obtain ⟨cd, hcd⟩ : ∃ cd : Int, cd = if Z.length = 0 then 6 else 0 := ⟨_, rfl⟩
    rw [← hcd]
    have HCD := Lib.hid hcd
    subst hW1
    clear hv h1 hg hcd
    go_enter Try.func48, Try.ntmps48
    go_wp2_with fail
    refine HV.out.mono ?_
    rintro e w2 ⟨rfl, hb⟩
    have q0 := below_cell hb p0
    have q1 := below_cell hb p1
    have lq := block_lt_of_cell q0
    go_wp2_with fail
    refine (HC.out _ hb).mono ?_
    rintro e w3 ⟨v3, rfl, ho3, hb3⟩
    have hbb := below_trans bx (below_trans hb hb3)
    have hle : w.heap.size ≤ w2.heap.size := Nat.le_trans bx.size hb.size
    have HO := Lib.hid (own_lo (lo' := w.heap.size) ho3 hle)
    obtain ⟨a3, m3, c3, rfl, HM3⟩ := own_shape ho3
    have HM4 : m3 = Z.length := HM3.out
    subst HM4
    clear ho3 HC HM3
    by_cases hz : Z.length = 0
    · have hd : ((Z.length : Int) == 0) = true := by rw [hz]; rfl
      obtain rfl : Z = [] := List.eq_nil_of_length_eq_zero hz
      have hc := HCD.out
      rw [if_pos hz] at hc
      subst hc
      clear hz
      go_wp2
      go_ret2
      exact ⟨_, rfl, World.ownsRow_nil _ _ _ _, hbb⟩
    · have hd : ((Z.length : Int) == 0) = false := by simp; exact fun e => hz (by simp [e])
      have hc := HCD.out
      rw [if_neg hz] at hc
      subst hc
      clear hz
      go_wp2
      go_ret2
      exact ⟨_, rfl, HO.out, hbb⟩

theorem allZ_snoc (k : Nat) : allZ k ++ [(k : Int)] = allZ (k + 1) := range_map_snoc (fun (k : Nat) => (k : Int)) k
theorem allZ_len (k : Nat) : (allZ k).length = k := by simp [allZ]
set_option maxRecDepth 100000 in
set_option maxHeartbeats 1000000 in
theorem l01All_any (n : Nat) (w : World) (hn : n ≤ 10) : Calls Try.prog 130 #[.int .i64 n] w (NewInts (allZ n) w) := by
  have HE := Lib.hid (own_empty w w.heap.size (Nat.le_refl _) 2)
  have hbe : Below w.heap.size w (w.alloc (.cells #[] 2)) := below_alloc (Below.refl _ _) _
  go_enter Try.func130, Try.ntmps130
  go_wp2
  go_loopw [3, 4] (fun u i wr => ∃ k : Nat, k ≤ n ∧ i = .int .i64 k ∧ Hid (wr.ownsRow w.heap.size 2 1 u k ((allZ k).map (Value.int .i64))) ∧ Below w.heap.size w wr) (fun _ i _ => n - (intOf i).toNat)
  case atStart => exact ⟨0, Nat.zero_le _, rfl, by simpa [Hid, allZ] using HE.out, hbe⟩
  case round =>
    obtain ⟨k, hk, rfl, HO, hb⟩ := hrel
    obtain ⟨au, mu, cu, rfl, HMu⟩ := own_shape HO.out
    by_cases hlt : k < n
    · go_wp2_with (at_builtin; refine wpList_push elem_int rfl (.tmp 11) (.tmp 13) rfl w.heap.size rfl HO.out _ rfl rfl (by unfold maxLen; omega) (by omega) hb.size ?_; intro v6 w6 ho6 hg6 hs6)
      have HO6 := Lib.hid ho6
      have hb6 : Below w.heap.size w w6 := Below.grown hb hg6 hb.size (fun g hg => (own_block HO.out hg).1)
      clear ho6 hg6 hs6
      go_wp2
      go_roundw
      case rel => exact ⟨k + 1, by omega, by go_num, by rw [← allZ_snoc, List.map_append]; exact HO6.out, hb6⟩
      case measure => simp [intOf]; omega
    · obtain rfl : k = n := by omega
      go_wp2
      go_ret
      exact ⟨_, rfl, by rw [allZ_len]; exact HO.out, hb⟩

theorem filter_take {α : Type} (p : α → Bool) (l : List α) (k : Nat) (d : α) (h : k < l.length) : (l.take (k + 1)).filter p = (l.take k).filter p ++ (if p (l.getD k d) = true then [l.getD k d] else []) := by
  rw [List.take_succ_eq_append_getElem h, List.filter_append]
  congr 1
  have e : l.getD k d = l[k] := by simp [List.getD_eq_getElem?_getD, h]
  rw [e]
  by_cases hp : p l[k] = true
  · simp [hp]
  · simp [hp]

set_option maxRecDepth 100000 in
set_option maxHeartbeats 4000000 in
theorem l01Sink_any (b : Nat) (v : Value) (xss : List (List Int)) (n : Nat) (w : World) (d0 : w.cell? ⟨b, 0, none⟩ = some (.int .i64 n)) (d1 : w.cell? ⟨b, 1, none⟩ = some v) (h1 : Rows2 w v xss) (hg : Good n n xss) :
    Calls Try.prog 93 #[.pointer (some ⟨b, 0, none⟩)] w fun e w' => ∃ v, e = .returned (.tuple #[v, .bool (decide (0 < (skZs xss n).length))]) ∧ w'.ownsRow w.heap.size 2 1 v (skZs xss n).length ((skZs xss n).map (Value.int .i64)) ∧ Below w.heap.size w w' := by
  have hn10 := hg.hi
  have hn1 := hg.lo
  have HRE := Lib.hid (fun (s : Nat) (hs : s < n) W (hW : Below w.heap.size w W) => l01Reached_any b _ xss n s W (below_cell hW d0) (below_cell hW d1) (h1.kept hW) hg ⟨by omega, by omega⟩)
  have HSK := Lib.hid (fun k => skTo_succ xss (allZ n) k)
  have HSL := Lib.hid (fun k => skTo_le xss (allZ n) k)
  have HZ0 := Lib.hid (skTo_zero xss (allZ n))
  have HEND : Hid (skTo xss (allZ n) n = skZs xss n) := rfl
  have HAL := Lib.hid (l01All_any n w hn10)
  have HANL := Lib.hid (allZ_len n)
  generalize skZs xss n = SZ at HEND ⊢
  clear h1 hg
  go_enter Try.func93, Try.ntmps93
  go_wp2_with fail
  refine HAL.out.mono ?_
  rintro e w1 ⟨v1, rfl, ho1, hb1⟩
  have q0 := below_cell hb1 d0
  have lq := block_lt_of_cell q0
  have HO1 := Lib.hid ho1
  obtain ⟨a1, m1, c1, rfl, HM1⟩ := own_shape ho1
  clear ho1
  go_wp2
  go_loopw [4, 5] (fun u i wr => ∃ s : Nat, s ≤ n ∧ i = .int .i64 s ∧ Hid (wr.ownsRow w.heap.size 2 1 u (skTo xss (allZ n) s).length ((skTo xss (allZ n) s).map (Value.int .i64))) ∧ Below w.heap.size w wr) (fun _ i _ => n - (intOf i).toNat)
  case atStart => exact ⟨0, Nat.zero_le _, rfl, by unfold Hid; rw [HZ0.out]; exact HO1.out, hb1⟩
  case round =>
    obtain ⟨s, hs, rfl, HO, hb⟩ := hrel
    have r0 := below_cell hb d0
    have lr := block_lt_of_cell r0
    have hsl := HSL.out s
    rw [HANL.out] at hsl
    obtain ⟨au, mu, cu, rfl, HMu⟩ := own_shape HO.out
    have HMv : mu = (skTo xss (allZ n) s).length := HMu.out
    subst HMv
    by_cases hlt : s < n
    · have HS2 := Lib.hid (HSK.out s)
      have HBE : Below wr.heap.size wr (wr.alloc (.cells #[] 2)) := below_alloc (Below.refl _ _) _
      have HR := Lib.hid (HRE.out s hlt _ (below_trans hb HBE))
      generalize skTo xss (allZ n) s = Z at HO HS2 hsl ⊢
      generalize rcZs xss (s : Int) = R at HR HS2
      have HE2 := Lib.hid (own_empty wr wr.heap.size (Nat.le_refl _) 2)
      clear HMu
      go_wp2_with fail
      refine HR.out.mono ?_
      rintro e w4 ⟨v4, rfl, ho4, hb4⟩
      have HZI := Lib.hid (ints_of_own HO.out)
      obtain ⟨a4, m4, c4, rfl, HM4⟩ := own_shape ho4
      have HI4 := Lib.hid ho4
      have HA4 := Lib.hid (apart_symm (apart_of_new HE2.out ho4))
      have HE4 := Lib.hid (own_below HE2.out hb4)
      have hb5 := below_trans HBE hb4
      clear ho4 HM4 HR
      obtain ⟨wo, rfl⟩ : ∃ wo : World, wo = wr := ⟨_, rfl⟩
      obtain ⟨az, bz, oz, cz, HZ⟩ := HZI.out.open
      have hzv := HZ.val
      injection hzv with hz1 _ hz3
      subst hz1; subst hz3
      have AZ := HZ.adr
      have HZC := Lib.hid (fun k (hk : k < Z.length) => HZ.at hk)
      clear HZ
      go_wp2
      go_loopw [6, 8] (fun u i wr => ∃ k : Nat, k ≤ Z.length ∧ i = .int .i64 k ∧ Hid (wr.ownsRow wo.heap.size 2 1 u ((Z.take k).filter fun z => R.contains z).length (((Z.take k).filter fun z => R.contains z).map (Value.int .i64))) ∧ Hid (wr.ownsRow (wo.heap.size + 1) 2 1 (.slice a4 m4 c4) R.length (R.map (Value.int .i64))) ∧ Hid ((Value.slice a4 m4 c4).ownBlock = none ∨ (Value.slice a4 m4 c4).ownBlock ≠ u.ownBlock) ∧ Below wo.heap.size w4 wr) (fun _ i _ => Z.length - (intOf i).toNat)
      case atStart => exact ⟨0, Nat.zero_le _, rfl, by simpa [Hid] using HE4.out, by simpa [Hid] using HI4.out, HA4.out, Below.refl _ _⟩
      case round =>
        obtain ⟨k, hk, rfl, HC, HI, HA, hb6⟩ := hrel
        obtain ⟨ac, mc, cc, rfl, HMc⟩ := own_shape HC.out
        have HMd : mc = ((Z.take k).filter fun z => R.contains z).length := HMc.out
        subst HMd
        have hfl : ((Z.take k).filter fun z => R.contains z).length ≤ 10 := Nat.le_trans (List.length_filter_le _ _) (by rw [List.length_take]; omega)
        by_cases hltk : k < Z.length
        · obtain ⟨z, hz, dz⟩ := HZC.out k hltk
          have i1 := idx_of Try.underlying32 size1_int (c := cu) AZ hltk .i64
          have FT := Lib.hid (filter_take (fun z => R.contains z) Z k 0 hltk)
          have HH := l00Has_any _ R z wr (ints_of_own HI.out)
          rw [hz] at FT
          have e1 := Below.cellOf (hb5.trans hb6) dz (block_lt_of_cell dz)
          have le := block_lt_of_cell e1
          generalize (Z.take k).filter (fun z => R.contains z) = F at HC FT HA hfl ⊢
          have hlw : wo.heap.size ≤ wr.heap.size := Nat.le_trans hb5.size hb6.size
          clear hz dz HMc
          cases hin : R.contains z
          · rw [hin] at HH FT
            have HH2 := Lib.hid HH
            have FT2 : Hid ((Z.take (k + 1)).filter (fun z => R.contains z) = F) := by have := FT.out; unfold Hid; rw [this]; simp
            clear HH FT hin
            go_wp2_with fail
            refine HH2.out.mono ?_
            rintro e w7 ⟨rfl, rfl⟩
            go_wp2
            go_roundw
            case rel => exact ⟨k + 1, by omega, by go_num, by rw [FT2.out]; exact HC.out, HI.out, HA.out, hb6⟩
            case measure => simp [intOf]; omega
          · rw [hin] at HH FT
            have HH2 := Lib.hid HH
            have FT2 : Hid ((Z.take (k + 1)).filter (fun z => R.contains z) = F ++ [z]) := by have := FT.out; unfold Hid; rw [this]; simp
            clear HH FT hin
            go_wp2_with fail
            refine HH2.out.mono ?_
            rintro e w7 ⟨rfl, rfl⟩
            go_wp2_with (at_builtin; refine wpList_push (v := .slice ac F.length cc) elem_int rfl (.tmp 38) (.tmp 43) rfl wo.heap.size rfl HC.out _ rfl rfl (by unfold maxLen; omega) (by omega) hlw ?_; intro v8 w8 ho8 hg8 hs8)
            have HC8 := Lib.hid ho8
            have hb8 : Below wo.heap.size w4 w8 := Below.grown hb6 hg8 hlw (fun g hg => (own_block HC.out hg).1)
            obtain ⟨hpo1, hpo2⟩ := push_other hg8 hs8 HI.out HA.out
            have HI8 := Lib.hid hpo1
            have HA8 := Lib.hid hpo2
            clear ho8 hg8 hs8 hpo1 hpo2
            go_wp2
            go_roundw
            case rel => exact ⟨k + 1, by omega, by go_num, by rw [FT2.out, List.length_append, List.map_append]; exact HC8.out, HI8.out, HA8.out, hb8⟩
            case measure => simp [intOf]; omega
        · obtain rfl : k = Z.length := by omega
          rw [List.take_length, ← HS2.out] at HC ⊢
          have hbb := below_trans hb (hb5.trans hb6)
          have hsz := hb.size
          go_wp2
          go_roundw
          case rel => exact ⟨s + 1, by omega, by go_num, own_lo HC.out hsz, hbb⟩
          case measure => simp [intOf]; omega
    · obtain rfl : s = n := by omega
      rw [HEND.out] at HO ⊢
      by_cases hz : 0 < SZ.length
      · have hd : decide (0 < SZ.length) = true := decide_eq_true hz
        go_wp2
        go_ret2
        exact ⟨_, rfl, HO.out, hb⟩
      · have hd : decide (0 < SZ.length) = false := decide_eq_false hz
        go_wp2
        go_ret2
        exact ⟨_, rfl, HO.out, hb⟩

set_option maxRecDepth 100000 in
set_option maxHeartbeats 4000000 in
theorem specSink_any (st : Int) (v : Value) (xss : List (List Int)) (w : World) (h1 : Rows2 w v xss) :
    Calls Try.prog 47 #[.agg #[.int .i64 st, v]] w (NewInts2 (skL st xss) (skCd st xss) w) := by
  obtain ⟨ao, m, c, rfl, HM⟩ := h1.shape
  obtain ⟨W1, hW1⟩ : ∃ W1, W1 = w.alloc (.cells #[.int .i64 st, .slice ao m c] 28) := ⟨_, rfl⟩
  have bx : Below w.heap.size w W1 := by rw [hW1]; exact below_alloc (Below.refl _ _) _
  have p0 : W1.cell? ⟨w.heap.size, 0, none⟩ = some (.int .i64 st) := by rw [hW1]; go_simp
  have p1 : W1.cell? ⟨w.heap.size, 1, none⟩ = some (.slice ao m c) := by rw [hW1]; go_simp
  have HOK := Lib.hid (l01Ok_any w.heap.size 0 st _ xss W1 p0 p1 (h1.kept bx))
  cases hv : validB st xss
  · rw [show skL st xss = [] by simp [skL, hv], show skCd st xss = 1 by simp [skCd, hv]]
    rw [hv] at HOK
    subst hW1
    clear hv h1
    go_enter Try.func47, Try.ntmps47
    go_wp2_with fail
    refine HOK.out.mono ?_
    rintro e w2 ⟨rfl, hq⟩
    have hb := hq.below (w.alloc (.cells #[.int .i64 st, .slice ao m c] 28)).heap.size
    have hbb := below_trans bx (below_trans hb (below_alloc (Below.refl _ _) (.cells #[] 2)))
    have HE := Lib.hid (own_empty w2 w.heap.size (Nat.le_trans bx.size hb.size) 2)
    go_wp2
    go_ret2
    exact ⟨_, rfl, HE.out, hbb⟩
  · obtain ⟨n, hg⟩ := good_of hv
    obtain rfl := hg.st
    rw [show skL n xss = skZs xss n by simp [skL, hv], show skCd n xss = if (skZs xss n).length = 0 then 6 else 0 by simp [skCd, hv]]
    rw [hv] at HOK
    have HC := Lib.hid (fun W (hW : Below W1.heap.size W1 W) => l01Sink_any w.heap.size _ xss n W (below_cell hW p0) (below_cell hW p1) ((h1.kept bx).kept hW) hg)
    generalize skZs xss n = Z at HC ⊢
    obtain ⟨cd, hcd⟩ : ∃ cd : Int, cd = if Z.length = 0 then 6 else 0 := ⟨_, rfl⟩
    rw [← hcd]
    have HCD := Lib.hid hcd
    subst hW1
    clear hv h1 hg hcd
    go_enter Try.func47, Try.ntmps47
    go_wp2_with fail
    refine HOK.out.mono ?_
    rintro e w2 ⟨rfl, hq⟩
    have hb := hq.below (w.alloc (.cells #[.int .i64 n, .slice ao m c] 28)).heap.size
    go_wp2_with fail
    refine (HC.out _ hb).mono ?_
    rintro e w3 ⟨v3, rfl, ho3, hb3⟩
    have hbb := below_trans bx (below_trans hb hb3)
    have hle : w.heap.size ≤ w2.heap.size := Nat.le_trans bx.size hb.size
    have HO := Lib.hid (own_lo (lo' := w.heap.size) ho3 hle)
    obtain ⟨a3, m3, c3, rfl, HM3⟩ := own_shape ho3
    have HM4 : m3 = Z.length := HM3.out
    subst HM4
    clear ho3 HC HM3
    by_cases hz : Z.length = 0
    · have hd : decide (0 < Z.length) = false := decide_eq_false (by omega)
      have hc := HCD.out
      rw [if_pos hz] at hc
      subst hc
      have hbe := below_trans hbb (below_alloc (Below.refl _ _) (.cells #[] 2))
      have HE := Lib.hid (own_empty w3 w.heap.size hbb.size 2)
      obtain rfl : Z = [] := List.eq_nil_of_length_eq_zero hz
      rw [hd]
      clear hz
      go_wp2
      go_ret2
      exact ⟨_, rfl, HE.out, hbe⟩
    · have hd : decide (0 < Z.length) = true := decide_eq_true (by omega)
      have hc := HCD.out
      rw [if_neg hz] at hc
      subst hc
      rw [hd]
      clear hz
      go_wp2
      go_ret2
      exact ⟨_, rfl, HO.out, hbb⟩

end Go.Proofs.Ytlgnbbfhejjodaa
