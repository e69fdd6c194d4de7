/- FindCertificate of the reference. -/
import Derived.Test.YtocdkeidjocmkaaCertImpl
namespace Go.Proofs.Ytocdkeidjocmkaa
set_option linter.unusedVariables false
set_option linter.unusedSimpArgs false
open Go.ChangeShapes Go.WideShapes Go.ChangeAt Go.RowKit

theorem bulk_leq (m : Nat) : ∀ zss : List (List Int), (∀ r ∈ zss, r.length ≤ m) → bulk2 zss ≤ zss.length * m := by
  intro zss
  induction zss with
  | nil => intro _; simp [bulk2]
  | cons r rs ih =>
    intro h
    have h1 := ih fun x hx => h x (List.mem_cons_of_mem _ hx)
    have h2 := h r (List.mem_cons_self ..)
    unfold bulk2 at h1 ⊢
    rw [List.map_cons, List.sum_cons, List.length_cons, Nat.succ_mul]
    omega
set_option maxRecDepth 100000 in
theorem fcZs_bulk (st : Int) (xss : List (List Int)) : bulk2 (fcZs st xss) ≤ 200000 := by
  unfold fcZs
  split
  · rename_i hv
    obtain ⟨n, hg⟩ := good_of hv
    have hn := hg.hi
    have e : st.toNat = n := by have := hg.st; omega
    have h3 : n * n ≤ 10 * 10 := Nat.mul_le_mul hn hn
    rw [e]
    split
    · unfold fcApart
      rw [bulk_two _ (pairsTo_in _ _ _)]
      have h1 := pairsTo_len (fcBad xss) n n
      omega
    · have h1 : (fcAll n).length ≤ n * n := pairsTo_len (fun _ _ => true) n n
      have h2 := bulk_leq 1024 (fcWords xss n) fun r hr => by
        obtain ⟨p, hp, rfl⟩ := List.mem_map.1 hr
        obtain ⟨x, y, rfl, hxy, hy, _⟩ := pairsTo_mem (fun _ _ => true) n n (Nat.le_refl _) p hp
        have ew : wordAt xss [(x : Int), (y : Int)] = wordP smallB (mgT xss x y) := rfl
        have h9 := wordP_len (p := smallB) (mg_tour hg (show x < n by omega) hy) hn
        rw [ew]
        exact h9
      have h4 : (fcWords xss n).length = (fcAll n).length := by simp [fcWords]
      rw [h4] at h2
      have h5 : (fcAll n).length * 1024 ≤ 100 * 1024 := Nat.mul_le_mul (show (fcAll n).length ≤ 100 by omega) (Nat.le_refl 1024)
      omega
  · simp [bulk2]
theorem pairRow_filter (P : Nat → Nat → Bool) (s m : Nat) : (pairRow (fun _ _ => true) s m).filter (fun p => P (p.getD 0 0).toNat (p.getD 1 0).toNat) = pairRow P s m := by
  unfold pairRow
  rw [List.filter_map]
  have e1 : (List.range m).filter (fun j => (fun _ _ => true) s (s + 1 + j)) = List.range m := by simp
  rw [e1]
  have e2 : ((fun p : List Int => P (p.getD 0 0).toNat (p.getD 1 0).toNat) ∘ fun j : Nat => [(s : Int), ((s + 1 + j : Nat) : Int)]) = fun j => P s (s + 1 + j) := by
    funext j
    rfl
  rw [e2]
theorem pairsTo_filter (P : Nat → Nat → Bool) (n : Nat) : ∀ s, (pairsTo (fun _ _ => true) n s).filter (fun p => P (p.getD 0 0).toNat (p.getD 1 0).toNat) = pairsTo P n s := by
  intro s
  induction s with
  | zero => rfl
  | succ s ih => rw [pairsTo, List.filter_append, ih, pairRow_filter, pairsTo]
theorem range_filter (L : List (List Int)) (q : List Int → Bool) : ((List.range L.length).filter fun i => q (L.getD i [])).map (fun i => L.getD i []) = L.filter q := by
  have e : (List.range L.length).map (fun i => L.getD i []) = L := by
    refine List.ext_getElem (by simp) fun i h1 h2 => ?_
    simp [List.getD_eq_getElem?_getD, h2]
  conv => rhs; rw [← e]
  rw [List.filter_map]
  rfl
theorem OwnRows.pick {w : World} {lo lo0 : Nat} {v v0 : Value} {rs : List Value} {zss : List (List Int)} (h : OwnRows w lo0 v0 rs zss) (I : List Nat) (hI : ∀ i ∈ I, i < zss.length) (hs : I.Pairwise (· < ·))
    (ho : w.ownsRow lo 55 1 v I.length (I.map fun i => rs.getD i undef)) (hl : lo ≤ lo0) : OwnRows w lo v (I.map fun i => rs.getD i undef) (I.map fun i => zss.getD i []) := by
  have e1 : ∀ k, k < I.length → (I.map fun i => rs.getD i undef).getD k undef = rs.getD (I.getD k 0) undef := fun k hk => by simp [List.getD_eq_getElem?_getD, hk]
  have e2 : ∀ k, k < I.length → (I.map fun i => zss.getD i []).getD k [] = zss.getD (I.getD k 0) [] := fun k hk => by simp [List.getD_eq_getElem?_getD, hk]
  have hm : ∀ k, k < I.length → I.getD k 0 < zss.length := fun k hk => hI _ (by rw [List.getD_eq_getElem?_getD, List.getElem?_eq_getElem hk]; exact List.getElem_mem hk)
  refine ⟨by rw [List.length_map]; exact ho, fun k hk => ?_, fun i j hij hj => ?_⟩
  · rw [List.length_map] at hk
    rw [e1 k hk, e2 k hk]
    exact own_lo (h.row _ (hm k hk)) hl
  · rw [List.length_map] at hj
    rw [e1 i (by omega), e1 j hj]
    refine h.apart _ _ ?_ (hm j hj)
    have := List.pairwise_iff_getElem.1 hs i j (by omega) hj hij
    simpa [List.getD_eq_getElem?_getD, hj, show i < I.length by omega] using this
theorem OwnRows.keepOuter {w w' : World} {lo : Nat} {v : Value} {rs : List Value} {zss : List (List Int)} {row : Option Nat} (h : OwnRows w lo v rs zss) (hg : w.grownBy w' row) (hne : v.ownBlock = none ∨ v.ownBlock ≠ row) (hrow : ∀ k, k < zss.length → (rs.getD k undef).ownBlock = none ∨ (rs.getD k undef).ownBlock ≠ row) : OwnRows w' lo v rs zss :=
  ⟨h.outer.kept hg hne, fun k hk => (h.row k hk).kept hg (hrow k hk), h.apart⟩
def badL (xss : List (List Int)) (p : List Int) : Bool := fcBad xss (p.getD 0 0).toNat (p.getD 1 0).toNat
/-- the places of the pairs that no word merges, below k -/
def badIx (xss L : List (List Int)) (k : Nat) : List Nat := (List.range k).filter fun i => badL xss (L.getD i [])
theorem badIx_yes {xss L : List (List Int)} {k : Nat} (h : badL xss (L.getD k []) = true) : badIx xss L (k + 1) = badIx xss L k ++ [k] := by
  have e : [k].filter (fun i => badL xss (L.getD i [])) = [k] := List.filter_eq_self.2 (by intro a ha; rw [List.mem_singleton] at ha; subst ha; exact h)
  unfold badIx
  rw [List.range_succ, List.filter_append, e]
theorem badIx_no {xss L : List (List Int)} {k : Nat} (h : badL xss (L.getD k []) = false) : badIx xss L (k + 1) = badIx xss L k := by
  have e : [k].filter (fun i => badL xss (L.getD i [])) = [] := List.filter_eq_nil_iff.2 (by intro a ha; rw [List.mem_singleton] at ha; subst ha; rw [h]; simp)
  unfold badIx
  rw [List.range_succ, List.filter_append, e, List.append_nil]
theorem badIx_len (xss L : List (List Int)) (k : Nat) : (badIx xss L k).length ≤ k := by unfold badIx; exact Nat.le_trans (List.length_filter_le _ _) (by simp)
theorem badIx_all (xss : List (List Int)) (n : Nat) : (badIx xss (fcAll n) (fcAll n).length).map (fun i => (fcAll n).getD i []) = fcApart xss n := by
  unfold badIx fcApart
  rw [range_filter (fcAll n) (badL xss), fcAll]
  exact pairsTo_filter (fcBad xss) n n
theorem word_snoc (f : List Int → List Int) (l : List (List Int)) {k : Nat} (h : k < l.length) : (l.take k).map f ++ [f (l.getD k [])] = (l.take (k + 1)).map f := by
  rw [List.take_succ_eq_append_getElem h, List.map_append]
  simp [List.getD_eq_getElem?_getD, h]

set_option maxRecDepth 100000 in
set_option maxHeartbeats 8000000 in
theorem specFind_any (st : Int) (v : Value) (xss : List (List Int)) (w : World) (h1 : Rows2 w v xss) :
    Calls Try.prog 18 #[.agg #[.int .i64 st, v]] w (NewCert (fcSide st xss) (fcK st xss) (fcZs st xss) (fcCd st xss) w) := by
  obtain ⟨ao, m, c, rfl, HM⟩ := h1.shape
  obtain ⟨W2, hW2⟩ : ∃ W2, W2 = (w.alloc (.cells #[.int .i64 st, .slice ao m c] 44)).alloc (.cells #[.int .i64 0, .slice none 0 0, .slice none 0 0] 41) := ⟨_, rfl⟩
  have bx : Below w.heap.size w W2 := by rw [hW2]; exact below_alloc (below_alloc (Below.refl _ _) _) _
  have sW2 : W2.heap.size = w.heap.size + 2 := by rw [hW2]; simp
  have p0 : W2.cell? ⟨w.heap.size, 0, none⟩ = some (.int .i64 st) := by rw [hW2]; go_simp
  have p1 : W2.cell? ⟨w.heap.size, 1, none⟩ = some (.slice ao m c) := by rw [hW2]; go_simp
  have q0 : W2.cell? ⟨w.heap.size + 1, 0, none⟩ = some (.int .i64 0) := by rw [hW2]; go_simp
  have q1 : W2.cell? ⟨w.heap.size + 1, 1, none⟩ = some (.slice none 0 0) := by rw [hW2]; go_simp
  have q2 : W2.cell? ⟨w.heap.size + 1, 2, none⟩ = some (.slice none 0 0) := by rw [hW2]; go_simp
  have f0 : W2.frozen? ⟨w.heap.size + 1, 0, none⟩ = false := by rw [hW2]; go_simp
  have f1 : W2.frozen? ⟨w.heap.size + 1, 1, none⟩ = false := by rw [hW2]; go_simp
  have f2 : W2.frozen? ⟨w.heap.size + 1, 2, none⟩ = false := by rw [hW2]; go_simp
  have HOK := Lib.hid (l01Ok_any w.heap.size 0 st _ xss W2 p0 p1 (h1.kept bx))
  have hzq := block_lt_of_cell q0
  cases hv : validB st xss
  · rw [show fcSide st xss = true by simp [fcSide, hv], show fcK st xss = 0 by simp [fcK, hv], show fcZs st xss = [] by simp [fcZs, hv], show fcCd st xss = 1 by simp [fcCd, hv]]
    rw [hv] at HOK
    subst hW2
    clear hv h1
    go_enter Try.func18, Try.ntmps18
    go_wp2_with fail
    refine HOK.out.mono ?_
    rintro e w2 ⟨rfl, hq⟩
    have hb := hq.below ((w.alloc (.cells #[.int .i64 st, .slice ao m c] 44)).alloc (.cells #[.int .i64 0, .slice none 0 0, .slice none 0 0] 41)).heap.size
    replace f0 := (hb.frozen (p := ⟨w.heap.size + 1, 0, none⟩) hzq).trans f0
    replace f1 := (hb.frozen (p := ⟨w.heap.size + 1, 1, none⟩) hzq).trans f1
    replace f2 := (hb.frozen (p := ⟨w.heap.size + 1, 2, none⟩) hzq).trans f2
    replace q0 := below_cell hb q0
    replace q1 := below_cell hb q1
    replace q2 := below_cell hb q2
    have hz := block_lt_of_cell q0
    have hbw := below_trans bx hb
    go_wp2
    refine bodyPost_ret (v := .tuple #[.agg #[.int .i64 0, .slice none 0 0, .slice none 0 0], .int .i64 1]) (by simp [results, Try.results18, go_sem, hz, q0, q1, q2]) rfl ⟨fun _ => ⟨_, [], rfl, ownRows_nil _ _, ?_⟩, fun h => by cases h⟩
    repeat (first | exact hbw | refine below_set ?_ (by omega) _ _)
  · obtain ⟨n, hg⟩ := good_of hv
    obtain rfl := hg.st
    have hn1 := hg.lo
    have hn10 := hg.hi
    have hsd : fcSide n xss = decide (0 < (fcApart xss n).length) := by unfold fcSide; rw [if_pos hv]; rfl
    have hkk : fcK n xss = if fcSide n xss = true then 2 else 1 := by unfold fcK; rw [if_pos hv]
    have hzz : fcZs n xss = if fcSide n xss = true then fcApart xss n else fcWords xss n := by unfold fcZs; rw [if_pos hv]; rfl
    rw [show fcCd n xss = 0 by simp [fcCd, hv], hkk, hzz, hsd]
    rw [hv] at HOK
    have hsides : ∃ (sd : Bool) (kk : Int) (zz : List (List Int)), Hid (sd = decide (0 < (fcApart xss n).length)) ∧ Hid (kk = if decide (0 < (fcApart xss n).length) = true then 2 else 1) ∧ Hid (zz = if decide (0 < (fcApart xss n).length) = true then fcApart xss n else fcWords xss n) := ⟨_, _, _, rfl, rfl, rfl⟩
    obtain ⟨sd, kk, zz, HSD, HKK, HZZ⟩ := hsides
    rw [← HKK.out, ← HZZ.out, ← HSD.out]
    have HSH := Lib.hid (fun s t (hs : s < n) (ht : t < n) W (hW : Below W2.heap.size W2 W) => l02Shrink_any w.heap.size n _ xss n (2 ^ s ||| 2 ^ t) W (below_cell hW p0) (below_cell hW p1) ((h1.kept bx).kept hW) hg (pair_lt hs ht))
    have HWL := Lib.hid (fun s t (hs : s < n) (ht : t < n) => wordP_len (p := smallB) (mg_tour hg hs ht) hn10)
    have HPS := Lib.hid (fun W => l02Pairs_any n W hn10)
    have hlen9 : (fcAll n).length ≤ 100 := by
      have h1 := pairsTo_len (fun _ _ => true) n n
      have h2 : n * n ≤ 10 * 10 := Nat.mul_le_mul hn10 hn10
      exact Nat.le_trans h1 h2
    obtain ⟨X2, hX2⟩ : ∃ X2, X2 = W2 := ⟨_, rfl⟩
    rw [← hX2] at HSH
    rw [hW2] at hX2
    have HX2 := Lib.hid hX2
    have sX2 : X2.heap.size = w.heap.size + 2 := by rw [hX2]; simp
    subst hW2
    clear hv h1 hg hsd hkk hzz hX2
    go_enter Try.func18, Try.ntmps18
    go_wp2_with fail
    refine HOK.out.mono ?_
    rintro e w2 ⟨rfl, hq⟩
    have hb := hq.below ((w.alloc (.cells #[.int .i64 n, .slice ao m c] 44)).alloc (.cells #[.int .i64 0, .slice none 0 0, .slice none 0 0] 41)).heap.size
    have HBX : Hid (Below X2.heap.size X2 w2) := by rw [HX2.out]; exact hb
    replace f0 := (hb.frozen (p := ⟨w.heap.size + 1, 0, none⟩) hzq).trans f0
    replace f1 := (hb.frozen (p := ⟨w.heap.size + 1, 1, none⟩) hzq).trans f1
    replace f2 := (hb.frozen (p := ⟨w.heap.size + 1, 2, none⟩) hzq).trans f2
    replace q0 := below_cell hb q0
    replace q1 := below_cell hb q1
    replace q2 := below_cell hb q2
    replace p0 := below_cell hb p0
    replace p1 := below_cell hb p1
    have bw2 := below_trans bx hb
    replace hzq := block_lt_of_cell q0
    have hzp := block_lt_of_cell p0
    clear hb
    go_wp2_with fail
    refine (HPS.out _).mono ?_
    rintro e w3 ⟨v3, rsP, rfl, hP, hb3⟩
    change OwnRows w3 w2.heap.size v3 rsP (fcAll n) at hP
    replace f0 := (hb3.frozen (p := ⟨w.heap.size + 1, 0, none⟩) hzq).trans f0
    replace f1 := (hb3.frozen (p := ⟨w.heap.size + 1, 1, none⟩) hzq).trans f1
    replace f2 := (hb3.frozen (p := ⟨w.heap.size + 1, 2, none⟩) hzq).trans f2
    replace q0 := below_cell hb3 q0
    replace q1 := below_cell hb3 q1
    replace q2 := below_cell hb3 q2
    replace p0 := below_cell hb3 p0
    replace p1 := below_cell hb3 p1
    replace hzq := block_lt_of_cell q0
    replace hzp := block_lt_of_cell p0
    have bw3 := below_trans bw2 hb3
    have HBX3 : Hid (Below X2.heap.size X2 w3) := below_trans HBX.out hb3
    have hw2 := bw2.size
    have hw23 := hb3.size
    have hX2s : X2.heap.size ≤ w2.heap.size := HBX.out.size
    obtain ⟨N, hN⟩ : ∃ N, N = (fcAll n).length := ⟨_, rfl⟩
    rw [← hN] at hlen9
    have HRD : Hid (∀ k, k < N → ∃ x y pb pc, (fcAll n).getD k [] = [((x : Nat) : Int), ((y : Nat) : Int)] ∧ x < n ∧ y < n ∧ Ints w3 (rsP.getD k undef) [(x : Int), (y : Int)] ∧ rsP.getD k undef = .slice (some ⟨pb, 0, none⟩) 2 pc) := by
      intro k hk
      rw [hN] at hk
      obtain ⟨x, y, hp, hx, hy⟩ := fcAll_at hk
      have hr := hP.row k hk
      rw [hp] at hr
      obtain ⟨pb, pc, hv, _⟩ := own_some hr (by simp)
      exact ⟨x, y, pb, pc, hp, by omega, hy, ints_of_own hr, by simpa using hv⟩
    have hTO := hP.outer
    rw [← hN] at hTO
    have HRC : Hid (∀ g c, v3 = .slice (some ⟨g, 0, none⟩) N c → ∀ k, k < N → w3.cell? ⟨g, k, none⟩ = some (rsP.getD k undef)) := by
      intro g c hv k hk
      have h := hTO
      rw [hv] at h
      have hl := hP.len
      rw [h.cellAt k (by omega), get_getDV _ (by omega)]
    obtain ⟨a3, m3, c3, rfl, HM3⟩ := own_shape hTO
    obtain rfl : m3 = N := HM3.out
    have HADR : Hid (0 < m3 → ∃ g, a3 = some ⟨g, 0, none⟩) := by
      intro h0
      obtain ⟨g, cap, he, _⟩ := own_some hTO h0
      injection he with he
      exact ⟨g, he⟩
    have HNN := Lib.hid hN
    have HP := Lib.hid hP
    have HE1 := Lib.hid ((ownRows_empty w3 w3.heap.size (Nat.le_refl _)).alloc (.cells #[] 55))
    have HE2 := Lib.hid (own_empty (w3.alloc (.cells #[] 55)) w3.heap.size (by simp) 55)
    have HBE := Lib.hid (below_alloc (below_alloc (Below.refl w3.heap.size w3) (.cells #[] 55)) (.cells #[] 55))
    clear hP hTO HM3 hN hb3 bw2 HPS HOK
    go_wp2
    go_loopw [5, 6, 7] (fun u a i wr => ∃ k : Nat, k ≤ m3 ∧ i = .int .i64 k ∧ Hid (∃ rs, OwnRows wr w3.heap.size u rs (((fcAll n).take k).map (wordAt xss))) ∧ Hid (wr.ownsRow w3.heap.size 55 1 a (badIx xss (fcAll n) k).length ((badIx xss (fcAll n) k).map fun i => rsP.getD i undef)) ∧ Hid (u.ownBlock = none ∨ u.ownBlock ≠ a.ownBlock) ∧ Below w3.heap.size w3 wr) (fun _ _ i _ => m3 - (intOf i).toNat)
    case atStart => exact ⟨0, Nat.zero_le _, rfl, ⟨[], by simpa using HE1.out⟩, by simpa [Hid, badIx] using HE2.out, .inr (by simp [Value.ownBlock]), HBE.out⟩
    case round =>
      obtain ⟨k, hk, rfl, HU, HA, HAP, hbr⟩ := hrel
      obtain ⟨rsW, hW⟩ := HU.out
      obtain ⟨au, mu, cu, rfl, HMu⟩ := own_shape hW.outer
      obtain ⟨aa, ma, ca, rfl, HMa⟩ := own_shape HA.out
      have HW := Lib.hid hW
      have hsz := hbr.size
      have hbl := badIx_len xss (fcAll n) k
      clear hW HU HMu
      by_cases hlt : k < m3
      · obtain ⟨pg, rfl⟩ := HADR.out (by omega)
        have hpc := HRC.out pg c3 rfl
        obtain ⟨x, y, pb, pc, hp, hx, hy, hints, hrv⟩ := HRD.out k hlt
        have d0 := hpc k hlt
        have d1 := below_cell hbr d0
        have hints2 := hints.kept hbr
        rw [hrv] at d1 d0 hints2
        have eb : bitsOf [(x : Int), (y : Int)] = 2 ^ x ||| 2 ^ y := by simp [bitsOf]
        have HBI := Lib.hid (l02Bits_any _ _ wr hints2 (by intro z hz; simp at hz; omega))
        rw [eb] at HBI
        have HC := Lib.hid (HSH.out x y hx hy wr (below_trans HBX3.out hbr))
        have HL := Lib.hid (HWL.out x y hx hy)
        have hwa : wordAt xss ((fcAll n).getD k []) = mgW xss x y := by rw [hp]; rfl
        have hba : badL xss ((fcAll n).getD k []) = !(mgOk xss x y) := by rw [hp]; rfl
        have hsn := word_snoc (wordAt xss) (fcAll n) (k := k) (by rw [← HNN.out]; exact hlt)
        rw [hwa] at hsn
        change Hid (Calls _ _ _ _ (ShrinkPost (mgW xss x y) (mgOk xss x y) wr)) at HC
        change Hid ((mgW xss x y).length ≤ 1024) at HL
        generalize mgW xss x y = zs at HC HL hsn
        generalize mgOk xss x y = ok at HC hba
        generalize 2 ^ x ||| 2 ^ y = ff at HBI HC
        have HSN := Lib.hid hsn
        have HBA := Lib.hid hba
        have HRV := Lib.hid hrv
        have i1 := idx_of Try.underlying22 size1_ints (ao := some ⟨pg, 0, none⟩) (b := pg) (o := 0) (n := m3) (c := c3) (fun _ => rfl) hlt .i64
        rw [Nat.zero_add] at i1
        have htl : (((fcAll n).take k).map (wordAt xss)).length = k := by rw [List.length_map, List.length_take, ← HNN.out]; omega
        have HTL := Lib.hid htl
        clear hsn hba hwa hp hints hints2 hrv hpc eb htl
        go_wp2_with fail
        refine HBI.out.mono ?_
        rintro e w4 ⟨rfl, rfl⟩
        go_wp2_with fail
        refine HC.out.mono ?_
        rintro e w5 ⟨v5, rfl, ho5, hb5⟩
        obtain ⟨a5, m5, c5, rfl, HM5⟩ := own_shape ho5
        have HW5 := Lib.hid (HW.out.below hb5)
        have HO5 := Lib.hid ho5
        have HA5 := Lib.hid (own_below HA.out hb5)
        have HAP5 := Lib.hid (HW.out.apart_new ho5)
        have hb35 := below_trans hbr hb5
        have hsz5 := hb35.size
        have hou5 := HW5.out.outer
        rw [HTL.out] at hou5
        have HOU5 := Lib.hid hou5
        clear ho5 hb5 hou5 HW HA d1 HBI HC HM5
        cases ok
        · have hix := badIx_yes HBA.out
          rw [Bool.not_false] at HBA
          have HIX := Lib.hid hix
          have d5 := below_cell hb35 d0
          clear hix
          go_wp2_with (at_builtin; first | (refine wpList_push elem_ints rfl (.tmp 33) (.tmp 35) rfl w3.heap.size rfl HOU5.out _ rfl rfl (by unfold maxLen; omega) (by omega) hsz5 ?_; intro v6 w6 ho6 hg6 hs6; have HW6 := Lib.hid (HW5.out.pushed hg6 (by rw [HTL.out]; exact ho6) HO5.out (Nat.le_trans hsz (Nat.le_refl _)) HAP5.out); have hpo := push_other hg6 hs6 HA5.out (apart_symm HAP.out); have HA6 := Lib.hid hpo.1; have HAP6 := Lib.hid hpo.2; have hb6 : Below w3.heap.size w3 w6 := Below.grown hb35 hg6 hsz5 (fun g hg => (own_block HOU5.out hg).1); have hsz6 := hb6.size; have d6 := below_cell hb6 d0; obtain ⟨a6, m6, c6, rfl, HM6⟩ := own_shape ho6; clear ho6 hg6 hs6 hpo d5) | (refine wpList_push elem_ints rfl (.tmp 39) (.tmp 44) rfl w3.heap.size rfl HA6.out _ rfl rfl (by unfold maxLen; omega) (by omega) hsz6 ?_; intro v7 w7 ho7 hg7 hs7; have hpo := push_other hg7 hs7 HW6.out.outer (apart_symm HAP6.out); have HW7 := Lib.hid (HW6.out.keepOuter hg7 (apart_symm HAP6.out) (fun k hk => own_ne (HW6.out.row k hk) HA6.out (by decide))); have HAP7 := Lib.hid hpo.2; have hb7 : Below w3.heap.size w3 w7 := Below.grown hb6 hg7 hsz6 (fun g hg => (own_block HA6.out hg).1); obtain ⟨a7, m7, c7, rfl, HM7⟩ := own_shape ho7; have HO7 := Lib.hid ho7; clear ho7 hg7 hs7 hpo))
          go_wp2
          go_roundw
          case rel =>
            refine ⟨k + 1, by omega, by go_num, ⟨_, by rw [← HSN.out]; exact HW7.out⟩, ?_, HAP7.out, hb7⟩
            unfold Hid
            rw [HIX.out, List.length_append, List.map_append]
            have h := HO7.out
            rw [← HRV.out] at h
            exact h
          case measure => simp [intOf]; omega
        · have hix := badIx_no HBA.out
          rw [Bool.not_true] at HBA
          have HIX := Lib.hid hix
          clear hix
          go_wp2_with (at_builtin; refine wpList_push elem_ints rfl (.tmp 33) (.tmp 35) rfl w3.heap.size rfl HOU5.out _ rfl rfl (by unfold maxLen; omega) (by omega) hsz5 ?_; intro v6 w6 ho6 hg6 hs6; have HW6 := Lib.hid (HW5.out.pushed hg6 (by rw [HTL.out]; exact ho6) HO5.out (Nat.le_trans hsz (Nat.le_refl _)) HAP5.out); have hpo := push_other hg6 hs6 HA5.out (apart_symm HAP.out); have HA6 := Lib.hid hpo.1; have HAP6 := Lib.hid hpo.2; have hb6 : Below w3.heap.size w3 w6 := Below.grown hb35 hg6 hsz5 (fun g hg => (own_block HOU5.out hg).1); have hsz6 := hb6.size; obtain ⟨a6, m6, c6, rfl, HM6⟩ := own_shape ho6; clear ho6 hg6 hs6 hpo)
          go_wp2
          go_roundw
          case rel => exact ⟨k + 1, by omega, by go_num, ⟨_, by rw [← HSN.out]; exact HW6.out⟩, by rw [HIX.out]; exact HA6.out, apart_symm HAP6.out, hb6⟩
          case measure => simp [intOf]; omega
      · obtain rfl : k = m3 := by omega
        have hbi := badIx_all xss n
        rw [← HNN.out] at hbi
        have hal : (fcApart xss n).length = ma := by rw [← hbi, List.length_map]; exact HMa.out.symm
        have s0 := below_cell hbr q0
        have s1 := below_cell hbr q1
        have s2 := below_cell hbr q2
        have u0 := (hbr.frozen (p := ⟨w.heap.size + 1, 0, none⟩) hzq).trans f0
        have u1 := (hbr.frozen (p := ⟨w.heap.size + 1, 1, none⟩) hzq).trans f1
        have u2 := (hbr.frozen (p := ⟨w.heap.size + 1, 2, none⟩) hzq).trans f2
        have hzr := block_lt_of_cell s0
        have bwr := below_trans bw3 hbr
        by_cases hpos : 0 < (fcApart xss n).length
        · have hde := decide_eq_true hpos
          obtain rfl : sd = true := by rw [HSD.out, hde]
          obtain rfl : kk = 2 := by rw [HKK.out, hde]; rfl
          obtain rfl : zz = fcApart xss n := by rw [HZZ.out, hde]; rfl
          have hp8 : 0 < ma := by omega
          have hpk := (HP.out.below hbr).pick (badIx xss (fcAll n) k) (fun i hi => by
            unfold badIx at hi
            rw [List.mem_filter, List.mem_range] at hi
            rw [← HNN.out]; exact hi.1) (List.Pairwise.filter _ (List.pairwise_lt_range (n := k))) (own_lo HA.out hw23) (Nat.le_refl _)
          rw [hbi] at hpk
          have HPK := Lib.hid hpk
          clear hde HSD HKK HZZ hpk hbi hal HMa hpos HA HW HAP
          go_wp2
          refine bodyPost_ret (v := .tuple #[.agg #[.int .i64 2, .slice aa ma ca, .slice none 0 0], .int .i64 0]) (by simp [results, Try.results18, go_sem, hzr, s0, s1, s2]) rfl ⟨fun _ => ⟨_, (badIx xss (fcAll n) k).map fun i => rsP.getD i undef, rfl, ?_, ?_⟩, fun h => by cases h⟩
          · have h := HPK.out.mono (lo' := w.heap.size + 2) (by omega)
            refine OwnRows.mono (lo := w.heap.size + 2) ?_ (by omega)
            repeat (first | exact h | refine OwnRows.set_below ?_ (by omega) _ _)
          · repeat (first | exact bwr | refine below_set ?_ (by omega) _ _)
        · have hde := decide_eq_false hpos
          obtain rfl : sd = false := by rw [HSD.out, hde]
          obtain rfl : kk = 1 := by rw [HKK.out, hde]; rfl
          obtain rfl : zz = fcWords xss n := by rw [HZZ.out, hde]; rfl
          obtain rfl : ma = 0 := by omega
          have hwf := HW.out
          rw [HNN.out, List.take_length] at hwf
          have HWF : Hid (OwnRows wr w3.heap.size (.slice au mu cu) rsW (fcWords xss n)) := hwf
          clear hde HSD HKK HZZ hbi hal HMa hpos HA HW HAP hwf
          go_wp2
          refine bodyPost_ret (v := .tuple #[.agg #[.int .i64 1, .slice none 0 0, .slice au mu cu], .int .i64 0]) (by simp [results, Try.results18, go_sem, hzr, s0, s1, s2]) rfl ⟨fun h => (by cases h), fun _ => ⟨_, rsW, rfl, ?_, ?_⟩⟩
          · have h := HWF.out.mono (lo' := w.heap.size + 2) (by omega)
            refine OwnRows.mono (lo := w.heap.size + 2) ?_ (by omega)
            repeat (first | exact h | refine OwnRows.set_below ?_ (by omega) _ _)
          · repeat (first | exact bwr | refine below_set ?_ (by omega) _ _)

end Go.Proofs.Ytocdkeidjocmkaa
