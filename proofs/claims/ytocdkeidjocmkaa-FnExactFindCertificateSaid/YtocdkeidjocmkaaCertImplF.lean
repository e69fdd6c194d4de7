/- FindCertificate of the program: the walk. -/
import Derived.Test.YtocdkeidjocmkaaCertImpl
import Derived.Deep.RegionLaw
namespace Go.Proofs.Ytocdkeidjocmkaa
set_option linter.unusedVariables false
set_option linter.unusedSimpArgs false
open Go.ChangeShapes Go.WideShapes Go.ChangeAt Go.RowKit

theorem Chg.push {lo hi : Nat} {w w1 w2 : World} {row : Option Nat} (h : Chg lo hi w w1) (hg : w1.grownBy w2 row) (hr : ∀ g, row = some g → w.heap.size ≤ g) : Chg lo hi w w2 :=
  ⟨hg.os.trans h.os, hg.tape.trans h.tape, hg.output.trans h.output, Nat.le_trans h.size hg.size, fun k hk ho => (hg.block k (Nat.lt_of_lt_of_le hk h.size) (fun e => by have := hr k e.symm; omega)).trans (h.block k hk ho)⟩
theorem Chg.store {ob : Nat} {w w1 : World} (h : Chg ob (ob + 1) w w1) (o : Nat) (u : Value) : Chg ob (ob + 1) w (w1.setCell ⟨ob, o, none⟩ u) := by
  have h2 : Below ob w1 (w1.setCell ⟨ob, o, none⟩ u) := (Below.refl _ _).setCell (p := ⟨ob, o, none⟩) (Nat.le_refl _) u
  have h3 : (w1.setCell ⟨ob, o, none⟩ u).heap.size = w1.heap.size := by simp
  refine ⟨h2.os.trans h.os, h2.tape.trans h.tape, h2.output.trans h.output, Nat.le_trans h.size h2.size, fun k hk ho => ?_⟩
  rw [← h.block k hk ho]
  exact Below.heap_setCell w1 ⟨ob, o, none⟩ u k (by show k ≠ ob; omega)

set_option maxRecDepth 100000 in
theorem certRows {w9 wr : World} {lo ob n : Nat} {v tv : Value} {Rs : List Value} {RR : List (List Value)} {xss L : List (List Int)} (hT : MTabA w9 lo tv Rs RR n (mgW xss) (mgOk xss)) (hn : Rs.length = n) (hc : Chg ob (ob + 1) w9 wr) (hlt : ∀ p ∈ L, ∀ g, (valAt RR p).ownBlock = some g → g < ob)
    (hat : ∀ k, k < L.length → ∃ x y : Nat, L.getD k [] = [(x : Int), (y : Int)] ∧ x < y ∧ y < n) (hlx : ∀ i j, i < j → j < L.length → pairLt (L.getD i []) (L.getD j []))
    {lo2 : Nat} (hv : wr.ownsRow lo2 55 1 v L.length (L.map (valAt RR))) (hl2 : lo ≤ lo2) : OwnRows wr lo v (L.map (valAt RR)) (L.map (wordAt xss)) := by
  have hl : (L.map (wordAt xss)).length = L.length := by simp
  have e1 : ∀ k, k < L.length → (L.map (valAt RR)).getD k undef = valAt RR (L.getD k []) := fun k hk => by simp [List.getD_eq_getElem?_getD, hk]
  have e2 : ∀ k, k < L.length → (L.map (wordAt xss)).getD k [] = wordAt xss (L.getD k []) := fun k hk => by simp [List.getD_eq_getElem?_getD, hk]
  refine ⟨by rw [hl]; exact own_lo hv hl2, fun k hk => ?_, fun i j hij hj => ?_⟩
  · rw [hl] at hk
    rw [e1 k hk, e2 k hk]
    obtain ⟨x, y, hp, hx, hy⟩ := hat k hk
    obtain ⟨e, hr⟩ := hT.row x (by omega)
    obtain ⟨r1, _⟩ := hr.row y (by omega)
    have hm := getD_mem hk []
    have hb := hlt _ hm
    have ev : valAt RR (L.getD k []) = (RR.getD x []).getD y undef := by rw [hp]; rfl
    have ew : wordAt xss (L.getD k []) = mgW xss x y := by rw [hp]; rfl
    rw [ev] at hb
    rw [ev, ew]
    exact own_chg r1 hc (fun g hg => .inl (hb g hg))
  · rw [hl] at hj
    rw [e1 i (by omega), e1 j hj]
    obtain ⟨x, y, hp, hx, hy⟩ := hat i (by omega)
    obtain ⟨x', y', hp', hx', hy'⟩ := hat j hj
    exact hT.apartAt hn hp hp' (by omega) hy hy' (hlx i j hij hj)
theorem take_map_snoc {α β : Type} (f : α → β) (l : List α) (d : α) {k : Nat} (h : k < l.length) : (l.take k).map f ++ [f (l.getD k d)] = (l.take (k + 1)).map f := by
  rw [List.take_succ_eq_append_getElem h, List.map_append]
  simp [List.getD_eq_getElem?_getD, h]

set_option maxRecDepth 100000 in
set_option maxHeartbeats 8000000 in
theorem implFind_any (st : Int) (v : Value) (xss : List (List Int)) (w : World) (h1 : Rows2 w v xss) :
    Calls Try.prog 20 #[.agg #[.int .i64 st, v]] w (NewCert (fcSide st xss) (fcK st xss) (fcZs st xss) (fcCd st xss) w) := by
  obtain ⟨ao, m, c, rfl, HM⟩ := h1.shape
  obtain ⟨W2, hW2⟩ : ∃ W2, W2 = (w.alloc (.cells #[.int .i64 st, .slice ao m c] 44)).alloc (.cells #[.int .i64 0, .slice none 0 0, .slice none 0 0] 41) := ⟨_, rfl⟩
  have bx : Below w.heap.size w W2 := by rw [hW2]; exact below_alloc (below_alloc (Below.refl _ _) _) _
  have p0 : W2.cell? ⟨w.heap.size, 0, none⟩ = some (.int .i64 st) := by rw [hW2]; go_simp
  have p1 : W2.cell? ⟨w.heap.size, 1, none⟩ = some (.slice ao m c) := by rw [hW2]; go_simp
  have q0 : W2.cell? ⟨w.heap.size + 1, 0, none⟩ = some (.int .i64 0) := by rw [hW2]; go_simp
  have q1 : W2.cell? ⟨w.heap.size + 1, 1, none⟩ = some (.slice none 0 0) := by rw [hW2]; go_simp
  have q2 : W2.cell? ⟨w.heap.size + 1, 2, none⟩ = some (.slice none 0 0) := by rw [hW2]; go_simp
  have f0 : W2.frozen? ⟨w.heap.size + 1, 0, none⟩ = false := by rw [hW2]; go_simp
  have f1 : W2.frozen? ⟨w.heap.size + 1, 1, none⟩ = false := by rw [hW2]; go_simp
  have f2 : W2.frozen? ⟨w.heap.size + 1, 2, none⟩ = false := by rw [hW2]; go_simp
  have HOK := Lib.hid (validAuto_any st _ xss W2 (h1.kept bx))
  cases hv : validB st xss
  · rw [show fcSide st xss = true by simp [fcSide, hv], show fcK st xss = 0 by simp [fcK, hv], show fcZs st xss = [] by simp [fcZs, hv], show fcCd st xss = 1 by simp [fcCd, hv]]
    rw [hv] at HOK
    subst hW2
    clear hv h1
    go_enter Try.func20, Try.ntmps20
    go_wp2_with fail
    refine HOK.out.mono ?_
    rintro e w2 ⟨rfl, hb⟩
    have hz := block_lt_of_cell (below_cell hb q0)
    have hzq := block_lt_of_cell q0
    have g0 := (hb.frozen (p := ⟨w.heap.size + 1, 0, none⟩) hzq).trans f0
    have g1 := (hb.frozen (p := ⟨w.heap.size + 1, 1, none⟩) hzq).trans f1
    have g2 := (hb.frozen (p := ⟨w.heap.size + 1, 2, none⟩) hzq).trans f2
    replace q0 := below_cell hb q0
    replace q1 := below_cell hb q1
    replace q2 := below_cell hb q2
    have hbw := below_trans bx hb
    go_wp2
    refine bodyPost_ret (v := .tuple #[.agg #[.int .i64 0, .slice none 0 0, .slice none 0 0], .int .i64 1]) (by simp [results, Try.results20, go_sem, hz, q0, q1, q2]) rfl ⟨fun _ => ⟨_, [], rfl, ownRows_nil _ _, ?_⟩, fun h => by cases h⟩
    repeat (first | exact hbw | refine below_set ?_ (by omega) _ _)
  · obtain ⟨n, hg⟩ := good_of hv
    obtain rfl := hg.st
    have hn1 := hg.lo
    have hn10 := hg.hi
    have hsd : fcSide n xss = decide (0 < (fcApart xss n).length) := by unfold fcSide; rw [if_pos hv]; rfl
    have hkk : fcK n xss = if fcSide n xss = true then 2 else 1 := by unfold fcK; rw [if_pos hv]
    have hzz : fcZs n xss = if fcSide n xss = true then fcApart xss n else fcWords xss n := by unfold fcZs; rw [if_pos hv]; rfl
    rw [show fcCd n xss = 0 by simp [fcCd, hv], hkk, hzz, hsd]
    rw [hv] at HOK
    have hsides : ∃ (sd : Bool) (kk : Int) (zz : List (List Int)), Hid (sd = decide (0 < (fcApart xss n).length)) ∧ Hid (kk = if decide (0 < (fcApart xss n).length) = true then 2 else 1) ∧ Hid (zz = if decide (0 < (fcApart xss n).length) = true then fcApart xss n else fcWords xss n) := ⟨_, _, _, rfl, rfl, rfl⟩
    obtain ⟨sd, kk, zz, HSD, HKK, HZZ⟩ := hsides
    rw [← HKK.out, ← HZZ.out, ← HSD.out]
    have HMS := Lib.hid (fun W (hW : Below w.heap.size w W) => mergesA_any n _ xss n W (h1.kept hW) hg)
    subst hW2
    clear hv h1 hg hsd hkk hzz
    go_enter Try.func20, Try.ntmps20
    go_wp2_with fail
    refine HOK.out.mono ?_
    rintro e w2 ⟨rfl, hb⟩
    have hzq := block_lt_of_cell q0
    replace f0 := (hb.frozen (p := ⟨w.heap.size + 1, 0, none⟩) hzq).trans f0
    replace f1 := (hb.frozen (p := ⟨w.heap.size + 1, 1, none⟩) hzq).trans f1
    replace f2 := (hb.frozen (p := ⟨w.heap.size + 1, 2, none⟩) hzq).trans f2
    replace q0 := below_cell hb q0
    replace q1 := below_cell hb q1
    replace q2 := below_cell hb q2
    replace p0 := below_cell hb p0
    replace p1 := below_cell hb p1
    have bw2 := below_trans bx hb
    replace hzq := block_lt_of_cell q0
    have hw22 : w.heap.size + 2 ≤ w2.heap.size := by have := hb.size; simpa using this
    clear hb
    go_wp2_with fail
    refine (HMS.out _ bw2).mono ?_
    rintro e w5 ⟨v5, Rs, RR, rfl, hRs, hTab, hb5⟩
    obtain ⟨tg, tc, rfl, _⟩ := own_some hTab.outer (by omega)
    rw [hRs]
    replace f0 := (hb5.frozen (p := ⟨w.heap.size + 1, 0, none⟩) hzq).trans f0
    replace f1 := (hb5.frozen (p := ⟨w.heap.size + 1, 1, none⟩) hzq).trans f1
    replace f2 := (hb5.frozen (p := ⟨w.heap.size + 1, 2, none⟩) hzq).trans f2
    replace q0 := below_cell hb5 q0
    replace q1 := below_cell hb5 q1
    replace q2 := below_cell hb5 q2
    replace p0 := below_cell hb5 p0
    replace p1 := below_cell hb5 p1
    have bw5 := below_trans bw2 hb5
    have hw2 := bw2.size
    replace hzq := block_lt_of_cell q0
    have hzp := block_lt_of_cell p0
    have HTAB := Lib.hid hTab
    have HRS := Lib.hid hRs
    have HPR := Lib.hid (fun W (hW : Below w5.heap.size w5 W) (hm : W.cell? ⟨w5.heap.size, 0, none⟩ = some (.slice (some ⟨tg, 0, none⟩) n tc)) =>
      pairs_any n m c ao 54 #[.pointer (some ⟨w5.heap.size, 0, none⟩)] (fcBad xss) W hn10 (fun _ _ => by kernel_rfl)
        (fun s t hs ht X hX => findLit1_any s t w5.heap.size n tg tc Rs RR xss w2.heap.size X (below_cell hX hm) (by have h := (HTAB.out.below hW).below hX; rw [HRS.out] at h; exact h) HRS.out hs ht))
    have HPR2 := Lib.hid (fun W => pairs_any n m c ao 55 #[] (fun _ _ => true) W hn10 (fun _ _ => by kernel_rfl) (fun s t _ _ X _ => findLit2_any s t X))
    have hw25 := hb5.size
    clear hTab hRs HMS hb5 bw2
    go_wp2_with fail
    refine (HPR.out _ (below_alloc (Below.refl _ _) _) (by go_simp)).mono ?_
    rintro e w8 ⟨v8, rs8, rfl, ho8, hb8⟩
    have m0 : w8.cell? ⟨w5.heap.size, 0, none⟩ = some (.slice (some ⟨tg, 0, none⟩) n tc) := below_cell hb8 (by go_simp)
    have hb58 : Below w5.heap.size w5 w8 := below_trans (below_alloc (Below.refl _ _) _) hb8
    replace f0 := (hb58.frozen (p := ⟨w.heap.size + 1, 0, none⟩) hzq).trans f0
    replace f1 := (hb58.frozen (p := ⟨w.heap.size + 1, 1, none⟩) hzq).trans f1
    replace f2 := (hb58.frozen (p := ⟨w.heap.size + 1, 2, none⟩) hzq).trans f2
    replace q0 := below_cell hb58 q0
    replace q1 := below_cell hb58 q1
    replace q2 := below_cell hb58 q2
    replace p0 := below_cell hb58 p0
    replace p1 := below_cell hb58 p1
    have bw8 := below_trans bw5 hb58
    have hm0 := block_lt_of_cell m0
    have hw5 := bw5.size
    have hTO := ho8.outer
    obtain ⟨a8, m8, c8, rfl, HM8⟩ := own_shape hTO
    have hz8 : w.heap.size + 1 < w8.heap.size := block_lt_of_cell q0
    replace hzp := block_lt_of_cell p0
    by_cases hpos : 0 < (fcApart xss n).length
    · have hde := decide_eq_true hpos
      obtain rfl : sd = true := by rw [HSD.out, hde]
      obtain rfl : kk = 2 := by rw [HKK.out, hde]; rfl
      obtain rfl : zz = fcApart xss n := by rw [HZZ.out, hde]; rfl
      clear hde HSD HKK HZZ
      have hp8 : 0 < m8 := by have := HM8.out; unfold fcApart at hpos; omega
      have HO8 := Lib.hid ho8
      clear ho8 hTO HM8 hpos HPR HPR2 HTAB
      go_wp2
      refine bodyPost_ret (v := .tuple #[.agg #[.int .i64 2, .slice a8 m8 c8, .slice none 0 0], .int .i64 0]) (by simp [results, Try.results20, go_sem, hz8, q0, q1, q2]) rfl ⟨fun _ => ⟨_, rs8, rfl, ?_, ?_⟩, fun h => by cases h⟩
      · have h := HO8.out.mono (lo' := w.heap.size + 2) (by simp; omega)
        refine OwnRows.mono (lo := w.heap.size + 2) ?_ (by omega)
        repeat (first | exact h | refine OwnRows.set_below ?_ (by omega) _ _)
      · repeat (first | exact bw8 | refine below_set ?_ (by omega) _ _)
    · have hde := decide_eq_false hpos
      obtain rfl : sd = false := by rw [HSD.out, hde]
      obtain rfl : kk = 1 := by rw [HKK.out, hde]; rfl
      obtain rfl : zz = fcWords xss n := by rw [HZZ.out, hde]; rfl
      clear hde HSD HKK HZZ
      obtain rfl : m8 = 0 := by have := HM8.out; unfold fcApart at hpos; omega
      obtain ⟨ob, hob⟩ : ∃ ob, ob = w8.heap.size := ⟨_, rfl⟩
      have hTab8 := HTAB.out.below hb58
      have HTB := Lib.hid (fun W (hW : Below w8.heap.size w8 W) => hTab8.below hW)
      have HVB : Hid (∀ p ∈ fcAll n, ∀ g, (valAt RR p).ownBlock = some g → g < ob) := by
        intro p hp g hg
        obtain ⟨x, y, rfl, h2, h3, _⟩ := pairsTo_mem (fun _ _ => true) n n (Nat.le_refl _) p hp
        have hr := (hTab8.row x (by rw [HRS.out]; omega))
        have := own_block (hr.2.row y (by omega)).1 hg
        omega
      clear ho8 hTO HM8 hpos HPR HTAB hTab8
      go_wp2_with fail
      refine (HPR2.out _).mono ?_
      rintro e w9 ⟨v9, rs9, rfl, ho9, hb9⟩
      have k0 : w9.cell? ⟨ob, 0, none⟩ = some (.int .i64 1) := by rw [hob]; exact below_cell hb9 (by go_simp)
      have k1 : w9.cell? ⟨ob, 1, none⟩ = some (.slice none 0 0) := by rw [hob]; exact below_cell hb9 (by go_simp)
      have k2 : w9.cell? ⟨ob, 2, none⟩ = some (.slice none 0 0) := by rw [hob]; exact below_cell hb9 (by go_simp)
      have l2 : w9.frozen? ⟨ob, 2, none⟩ = false := by rw [hob]; exact (hb9.frozen (p := ⟨w8.heap.size, 2, none⟩) (by simp)).trans (by go_simp)
      have hb89 : Below w8.heap.size w8 w9 := below_trans (below_alloc (Below.refl _ _) _) hb9
      have bw9 := below_trans bw8 hb89
      replace f0 := (hb89.frozen (p := ⟨w.heap.size + 1, 0, none⟩) hz8).trans f0
      replace f1 := (hb89.frozen (p := ⟨w.heap.size + 1, 1, none⟩) hz8).trans f1
      replace f2 := (hb89.frozen (p := ⟨w.heap.size + 1, 2, none⟩) hz8).trans f2
      replace q0 := below_cell hb89 q0
      replace q1 := below_cell hb89 q1
      replace q2 := below_cell hb89 q2
      replace m0 := below_cell hb89 m0
      have lob : ob < w9.heap.size := block_lt_of_cell k0
      replace hzp := hzp
      have HT9 := Lib.hid (HTB.out w9 hb89)
      change OwnRows w9 _ v9 rs9 (fcAll n) at ho9
      have hw8 := bw8.size
      have hlen9 : (fcAll n).length ≤ 100 := by
        have h1 := pairsTo_len (fun _ _ => true) n n
        have h2 : n * n ≤ 10 * 10 := Nat.mul_le_mul hn10 hn10
        exact Nat.le_trans h1 h2
      obtain ⟨b9, hb9e⟩ : ∃ b9, b9 = (w8.alloc (.cells #[.int .i64 1, .slice none 0 0, .slice none 0 0] 41)).heap.size := ⟨_, rfl⟩
      have hb9l : ob + 1 ≤ b9 := by rw [hb9e, hob]; simp
      rw [← hob]
      rw [← hb9e] at ho9
      have hTO := ho9.outer
      obtain ⟨N, hN⟩ : ∃ N, N = (fcAll n).length := ⟨_, rfl⟩
      rw [← hN] at hlen9 hTO
      have HRD : Hid (∀ k, k < N → ∃ x y pb pc, (fcAll n).getD k [] = [((x : Nat) : Int), ((y : Nat) : Int)] ∧ x < n ∧ y < n ∧ ob + 1 ≤ pb ∧ w9.cell? ⟨pb, 0, none⟩ = some (.int .i64 x) ∧ w9.cell? ⟨pb, 1, none⟩ = some (.int .i64 y) ∧ rs9.getD k undef = .slice (some ⟨pb, 0, none⟩) 2 pc) := by
        intro k hk
        rw [hN] at hk
        obtain ⟨x, y, hp, hx, hy⟩ := fcAll_at hk
        have hr := ho9.row k hk
        rw [hp] at hr
        obtain ⟨pb, pc, hv, _⟩ := own_some hr (by simp)
        have hlb := (own_block (g := pb) hr (by rw [hv]; rfl)).1
        have e0 := hr
        rw [hv] at e0
        have c0 := e0.cellAt 0 (by simp)
        have c1 := e0.cellAt 1 (by simp)
        exact ⟨x, y, pb, pc, hp, by omega, hy, by omega, by simpa using c0, by simpa using c1, by simpa using hv⟩
      have HRC : Hid (∀ g c, v9 = .slice (some ⟨g, 0, none⟩) N c → ob + 1 ≤ g ∧ ∀ k, k < N → w9.cell? ⟨g, k, none⟩ = some (rs9.getD k undef)) := by
        intro g c hv
        have h := ho9.outer
        rw [hv, ← hN] at h
        have hl := ho9.len
        exact ⟨by have := (own_block (g := g) h rfl).1; omega, fun k hk => by rw [h.cellAt k (by omega), get_getDV _ (by omega)]⟩
      obtain ⟨a9, m9, c9, rfl, HM9⟩ := own_shape hTO
      obtain rfl : m9 = N := HM9.out
      have HADR : Hid (0 < m9 → ∃ g, a9 = some ⟨g, 0, none⟩) := by
        intro h0
        obtain ⟨g, cap, he, _⟩ := own_some hTO h0
        injection he with he
        exact ⟨g, he⟩
      have HNN := Lib.hid hN
      have HCH0 := Lib.hid (Chg.refl ob (ob + 1) w9)
      clear ho9 hTO HM9 hN hb9 hb89 HPR2 hb9e hb58 hb8 bw5 bw8
      subst hob
      go_wp2
      go_loopw [27] (fun i wr => ∃ k : Nat, k ≤ m9 ∧ i = .int .i64 k ∧ (∃ u, wr.cell? ⟨w8.heap.size, 2, none⟩ = some u ∧ Hid (wr.ownsRow w9.heap.size 55 1 u k (((fcAll n).take k).map (valAt RR)))) ∧ wr.cell? ⟨w8.heap.size, 0, none⟩ = some (.int .i64 1) ∧ wr.cell? ⟨w8.heap.size, 1, none⟩ = some (.slice none 0 0) ∧ wr.frozen? ⟨w8.heap.size, 2, none⟩ = false ∧ Hid (Chg w8.heap.size (w8.heap.size + 1) w9 wr)) (fun i _ => m9 - (intOf i).toNat)
      case atStart => exact ⟨0, Nat.zero_le _, rfl, ⟨_, k2, World.ownsRow_nil _ _ _ _⟩, k0, k1, l2, HCH0.out⟩
      case round =>
        obtain ⟨k, hk, rfl, ⟨u, j2, HU⟩, j0, j1, n2, HC⟩ := hrel
        obtain ⟨au, mu, cu, rfl, HMu⟩ := own_shape HU.out
        obtain rfl : mu = k := HMu.out
        have hsz := HC.out.size
        by_cases hlt : mu < m9
        · obtain ⟨pg, rfl⟩ := HADR.out (by omega)
          obtain ⟨hpg, hpc⟩ := HRC.out pg c9 rfl
          obtain ⟨x, y, pb, pc, hp, hx, hy, hpb, e0, e1, hrv⟩ := HRD.out mu hlt
          have d1 := HC.out.cell (hpc mu hlt) (.inr hpg)
          rw [hrv] at d1
          replace e0 := HC.out.cell e0 (.inr hpb)
          replace e1 := HC.out.cell e1 (.inr hpb)
          have mm := HC.out.cell m0 (.inl (by omega))
          obtain ⟨rg, rc, t0, t1, ho, _⟩ := (show MTabA w9 w2.heap.size (.slice (some ⟨tg, 0, none⟩) Rs.length tc) Rs RR n (mgW xss) (mgOk xss) from HT9.out).word HRS.out hp hx hy
          have hrgb : rg < w8.heap.size := by
            have hT8 := HTB.out w8 (Below.refl _ _)
            obtain ⟨q1, q2⟩ := hT8.row x (by rw [HRS.out]; exact hx)
            have ho8 := q2.outer
            have hcell := HT9.out.outer.cellAt x (by rw [HRS.out]; omega)
            rw [t0] at hcell
            have hg := get_getDV Rs (i := x) (by rw [HRS.out]; exact hx)
            rw [hg] at hcell
            injection hcell with hcell
            rw [← hcell] at ho8
            have := (own_block (g := rg) ho8 rfl).2
            omega
          have htgb : tg < w8.heap.size := by
            have hT8 := HTB.out w8 (Below.refl _ _)
            have := (own_block (g := tg) hT8.outer rfl).2
            omega
          replace t0 := HC.out.cell t0 (.inl htgb)
          replace t1 := HC.out.cell t1 (.inl hrgb)
          have hsn := take_map_snoc (valAt RR) (fcAll n) [] (k := mu) (by rw [← HNN.out]; exact hlt)
          obtain ⟨r, hr⟩ : ∃ r, r = valAt RR ((fcAll n).getD mu []) := ⟨_, rfl⟩
          rw [← hr] at t1 ho hsn
          obtain ⟨ar, mr, cr, rfl, HMr⟩ := own_shape ho
          have HSN := Lib.hid hsn
          have i1 := idx_of Try.underlying22 size1_ints (ao := some ⟨pg, 0, none⟩) (b := pg) (o := 0) (n := m9) (c := c9) (fun _ => rfl) hlt .i64
          have i2 := idx_of Try.underlying55 size1_int (ao := some ⟨pb, 0, none⟩) (b := pb) (o := 0) (n := 2) (c := pc) (fun _ => rfl) (k := 0) (by omega) .i64
          have i3 := idx_of Try.underlying55 size1_int (ao := some ⟨pb, 0, none⟩) (b := pb) (o := 0) (n := 2) (c := pc) (fun _ => rfl) (k := 1) (by omega) .i64
          have i4 := idx_of Try.underlying26 size1_rows (ao := some ⟨tg, 0, none⟩) (b := tg) (o := 0) (n := n) (c := tc) (fun _ => rfl) hx .i64
          have i5 := idx_of Try.underlying22 size1_ints (ao := some ⟨rg, 0, none⟩) (b := rg) (o := 0) (n := n) (c := rc) (fun _ => rfl) hy .i64
          rw [Nat.zero_add] at i1 i4 i5
          have hob1 : w8.heap.size < wr.heap.size := by omega
          have HOBN : Hid (∀ g, Value.ownBlock (.slice au mu cu) = some g → w9.heap.size ≤ g) := fun g hg => (own_block HU.out hg).1
          clear hr hrv hpc hsn ho HMr HMu
          go_wp2
          go_region_law (refine step_push (v := .slice au mu cu) elem_ints rfl (.tmp 32) (.tmp 44) rfl w9.heap.size rfl HU.out _ rfl rfl (by unfold maxLen; omega) (by omega) hsz ?_; intro v6 w6 ho6 hg6 hs6; obtain ⟨a6, m6, c6, rfl, HM6⟩ := own_shape ho6; have hne6 : some w8.heap.size ≠ Value.ownBlock (.slice au mu cu) := (fun e => by have := HOBN.out w8.heap.size e.symm; omega); have y2 : w6.cell? ⟨w8.heap.size, 2, none⟩ = some (.slice au mu cu) := (World.cell?_of_block (hg6.block w8.heap.size hob1 hne6)).trans j2; have y0 : w6.cell? ⟨w8.heap.size, 0, none⟩ = some (.int .i64 1) := (World.cell?_of_block (hg6.block w8.heap.size hob1 hne6)).trans j0; have y1 : w6.cell? ⟨w8.heap.size, 1, none⟩ = some (.slice none 0 0) := (World.cell?_of_block (hg6.block w8.heap.size hob1 hne6)).trans j1; have z2 : w6.frozen? ⟨w8.heap.size, 2, none⟩ = false := (World.frozen?_of_block (hg6.block w8.heap.size hob1 hne6)).trans n2; have HC6 := Lib.hid (HC.out.push hg6 HOBN.out); have HO6 := Lib.hid ho6; have hob6 : w8.heap.size < w6.heap.size := block_lt_of_cell y0; clear ho6 hg6 hs6 hne6)
          all_goals
            have HC7 := Lib.hid (HC6.out.store 2 (.slice a6 m6 c6))
            have hO7 : (w6.setCell ⟨w8.heap.size, 2, none⟩ (.slice a6 m6 c6)).ownsRow w9.heap.size 55 1 (.slice a6 m6 c6) (mu + 1) (((fcAll n).take (mu + 1)).map (valAt RR)) := by
              rw [← HSN.out]
              exact ownsRow_setCell_below HO6.out lob _
            have HO7 := Lib.hid hO7
            clear hO7
            go_wp2
            go_roundw
            case rel => exact ⟨mu + 1, by omega, by go_num, ⟨_, by go_simp, HO7.out⟩, by go_simp, by go_simp, by go_simp, HC7.out⟩
            case measure => simp [intOf]; omega
        · obtain rfl : mu = m9 := by omega
          have hu := HU.out
          rw [HNN.out, List.take_length] at hu
          have hfin := certRows (L := fcAll n) (show MTabA w9 w2.heap.size (.slice (some ⟨tg, 0, none⟩) Rs.length tc) Rs RR n (mgW xss) (mgOk xss) from HT9.out) HRS.out HC.out HVB.out (fun k hk => fcAll_at hk) (fun i j hij hj => fcAll_lt hij hj) hu (by omega)
          rw [← HNN.out] at hfin
          have HFIN := Lib.hid hfin
          have hch := HC.out
          have s0 := hch.cell q0 (.inl (by omega))
          have s1 := hch.cell q1 (.inl (by omega))
          have s2 := hch.cell q2 (.inl (by omega))
          have hzq9 := block_lt_of_cell q0
          have u0 := (World.frozen?_of_block (a := ⟨w.heap.size + 1, 0, none⟩) (hch.block (w.heap.size + 1) hzq9 (.inl (by omega)))).trans f0
          have u1 := (World.frozen?_of_block (a := ⟨w.heap.size + 1, 1, none⟩) (hch.block (w.heap.size + 1) hzq9 (.inl (by omega)))).trans f1
          have u2 := (World.frozen?_of_block (a := ⟨w.heap.size + 1, 2, none⟩) (hch.block (w.heap.size + 1) hzq9 (.inl (by omega)))).trans f2
          have hzr : w.heap.size + 1 < wr.heap.size := by omega
          have HBW := Lib.hid (bw9.trans ((hch.below (show w8.heap.size ≤ w9.heap.size by omega)).mono (by omega)))
          clear hu hfin hch
          go_wp2
          refine bodyPost_ret (v := .tuple #[.agg #[.int .i64 1, .slice none 0 0, .slice au mu cu], .int .i64 0]) (by simp [results, Try.results20, go_sem, hzr, s0, s1, s2]) rfl ⟨fun h => (by cases h), fun _ => ⟨_, (fcAll n).map (valAt RR), rfl, ?_, ?_⟩⟩
          · have h := HFIN.out.mono (lo' := w.heap.size + 2) (by omega)
            refine OwnRows.mono (lo := w.heap.size + 2) ?_ (by omega)
            repeat (first | exact h | refine OwnRows.set_below ?_ (by omega) _ _)
          · repeat (first | exact HBW.out | refine below_set ?_ (by omega) _ _)

end Go.Proofs.Ytocdkeidjocmkaa
