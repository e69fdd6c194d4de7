/- TargetsOf, of the reference and of the program. -/
import Derived.Test.YtbcfnibpdfonkaaRank
import Derived.Test.YtbcfnibpdfonkaaPut
namespace Go.Proofs.Ytbcfnibpdfonkaa
set_option linter.unusedVariables false
set_option linter.unusedSimpArgs false
open Go.ChangeShapes Go.WideShapes Go.ChangeAt Go.RowKit

/-! no set of the tour is empty -/
theorem moved_pos {row : List Int} {f : Nat} (h0 : f ≠ 0) (hf : f < 2 ^ row.length) : moved row f ≠ 0 := by
  obtain ⟨j, hj⟩ := Nat.exists_testBit_of_ne_zero h0
  have hjl : j < row.length := by
    rcases Nat.lt_or_ge j row.length with h | h
    · exact h
    · have := Nat.testBit_lt_two_pow (Nat.lt_of_lt_of_le hf (Nat.pow_le_pow_right (by decide) h))
      rw [this] at hj; cases hj
  intro e
  have h2 : (moved row f).testBit (row.getD j 0).toNat = true := by
    unfold moved
    rw [testBit_bitsOf, List.any_eq_true]
    exact ⟨row.getD j 0, List.mem_map.2 ⟨j, by unfold setTo; simp [hj, hjl], rfl⟩, by simp⟩
  rw [e] at h2
  simp at h2
def NzT (T : Tour) : Prop := ∀ p ∈ T, p.1 ≠ 0
theorem NzT.step {n : Nat} {rows : List (List Int)} (hr : GoodRows n rows) {T : Tour} (hg : GoodT n T) (h : NzT T) {i x : Nat} (hi : i < T.length) (hx : x < rows.length) : NzT (stepT rows i T x) := by
  unfold stepT
  split
  · exact h
  · intro p hp
    rcases List.mem_append.1 hp with hp | hp
    · exact h p hp
    · simp only [List.mem_singleton] at hp
      subst hp
      have hm := Tour.at_mem hi
      exact moved_pos (h _ hm) (by rw [(hr.row hx).1]; exact hg.lt _ hm)
theorem NzT.inner {n : Nat} {rows : List (List Int)} (hr : GoodRows n rows) (h3 : rows.length ≤ 3) {T : Tour} (hg : GoodT n T) (h : NzT T) {i : Nat} (hi : i < T.length) : ∀ x, x ≤ rows.length → NzT (innerT rows i T x) := by
  intro x
  induction x with
  | zero => intro _; simpa [innerT] using h
  | succ x ih =>
    intro hx
    rw [innerT_succ]
    exact (ih (by omega)).step hr (hg.inner hr h3 hi x (by omega)) (Nat.lt_of_lt_of_le hi (innerT_len rows i T x)) (by omega)
theorem NzT.outer {n : Nat} {rows : List (List Int)} (hr : GoodRows n rows) (h3 : rows.length ≤ 3) {f : Nat} (hf : f < 2 ^ n) (h0 : f ≠ 0) : ∀ i, NzT (outerT rows f i) := by
  intro i
  induction i with
  | zero => intro p hp; simp [outerT] at hp; subst hp; exact h0
  | succ i ih =>
    rw [outerT_succ, roundT]
    split
    · rename_i h
      exact NzT.inner hr h3 (GoodT.outer hr h3 hf i) ih h _ (Nat.le_refl _)
    · exact ih

/-- the only state of a set -/
def onlyOf (f : Nat) : Nat := (setTo f 10).headD 0
theorem small_fact : ∀ f : Fin 1024, smallB f.1 = true → f.1 ≠ 0 → f.1 = 2 ^ onlyOf f.1 ∧ onlyOf f.1 < 10 ∧ setTo f.1 10 = [onlyOf f.1] := by decide +kernel
theorem small_fact' {f : Nat} (h : f < 1024) (hs : smallB f = true) (h0 : f ≠ 0) : f = 2 ^ onlyOf f ∧ onlyOf f < 10 ∧ setTo f 10 = [onlyOf f] := small_fact ⟨f, h⟩ hs h0
theorem pow_fact : ∀ s : Fin 10, smallB (2 ^ s.1) = true := by decide +kernel

theorem pow_inj {a b : Nat} (h : 2 ^ a = 2 ^ b) : a = b := by
  rcases Nat.lt_trichotomy a b with h1 | h1 | h1
  · have := Nat.pow_lt_pow_right (a := 2) (by decide) h1; omega
  · exact h1
  · have := Nat.pow_lt_pow_right (a := 2) (by decide) h1; omega
def statesZ (n : Nat) : List Int := (List.range n).map fun (s : Nat) => (s : Int)
/-- the states to which the first k sets lead -/
def hitK (T : Tour) (k : Nat) (z : Int) : Bool := (List.range k).any fun j => (T.at j).1 == 2 ^ z.toNat
def tgK (T : Tour) (n k : Nat) : List Int := (statesZ n).filter (hitK T k)
/-- the states below s that are met -/
def tgTo (T : Tour) (s : Nat) : List Int := (statesZ s).filter fun z => decide (2 ^ z.toNat ∈ T.sets)
theorem statesZ_sorted (n : Nat) : (statesZ n).Pairwise (· < ·) := by
  unfold statesZ
  rw [List.pairwise_map]
  exact List.pairwise_lt_range.imp fun h => by omega
theorem tgK_zero (T : Tour) (n : Nat) : tgK T n 0 = [] := by unfold tgK; rw [List.filter_eq_nil_iff]; intro z _; simp [hitK]
theorem tgK_no {T : Tour} {n k : Nat} (hs : smallB (T.at k).1 = false) (hn : n ≤ 10) : tgK T n (k + 1) = tgK T n k := by
  unfold tgK
  refine List.filter_congr fun z hz => ?_
  unfold hitK
  rw [List.range_succ, List.any_append]
  obtain ⟨s, hsn, rfl⟩ := List.mem_map.1 hz
  have hsn' := List.mem_range.1 hsn
  have : ((T.at k).1 == 2 ^ ((s : Int)).toNat) = false := by
    rw [beq_eq_false_iff_ne]
    intro e
    rw [e] at hs
    have := pow_fact ⟨s, by omega⟩
    simp at this hs
    rw [this] at hs
    cases hs
  simp only [List.any_cons, List.any_nil, Bool.or_false, this]
theorem tgK_yes {T : Tour} {n k : Nat} (hs : smallB (T.at k).1 = true) (h0 : (T.at k).1 ≠ 0) (hl : (T.at k).1 < 2 ^ n) (hn : n ≤ 10) : tgK T n (k + 1) = putZ (tgK T n k) (onlyOf (T.at k).1 : Int) := by
  have hl2 : (T.at k).1 < 1024 := Nat.lt_of_lt_of_le hl (Nat.pow_le_pow_right (by decide) hn)
  obtain ⟨e, h10, _⟩ := small_fact' hl2 hs h0
  have hon : onlyOf (T.at k).1 < n := by
    rcases Nat.lt_or_ge (onlyOf (T.at k).1) n with h | h
    · exact h
    · have := Nat.pow_le_pow_right (n := 2) (by decide) h
      rw [← e] at this
      omega
  unfold tgK
  rw [putZ_filter (statesZ_sorted n) (List.mem_map.2 ⟨_, List.mem_range.2 hon, rfl⟩)]
  refine List.filter_congr fun z hz => ?_
  unfold hitK
  rw [List.range_succ, List.any_append]
  congr 1
  obtain ⟨s, hsn, rfl⟩ := List.mem_map.1 hz
  simp only [List.any_cons, List.any_nil, Bool.or_false, Int.toNat_natCast]
  rw [Bool.eq_iff_iff, beq_iff_eq, beq_iff_eq]
  constructor
  · intro h
    have h2 : 2 ^ onlyOf (T.at k).1 = 2 ^ s := by rw [← e, h]
    have := pow_inj h2
    omega
  · intro h
    have : s = onlyOf (T.at k).1 := by omega
    rw [this]
    exact e
theorem tgK_all (T : Tour) (n : Nat) : tgK T n T.length = tgTo T n := by
  unfold tgK tgTo
  refine List.filter_congr fun z hz => ?_
  rw [Bool.eq_iff_iff, decide_eq_true_iff]
  unfold hitK Tour.sets
  rw [List.any_eq_true, List.mem_map]
  constructor
  · rintro ⟨j, hj, h⟩
    exact ⟨T.at j, Tour.at_mem (List.mem_range.1 hj), by simpa using h⟩
  · rintro ⟨p, hp, h⟩
    obtain ⟨j, hj, rfl⟩ := List.getElem_of_mem hp
    refine ⟨j, List.mem_range.2 hj, ?_⟩
    rw [Tour.at_get hj]
    simpa using h
theorem tgTo_succ (T : Tour) (s : Nat) : tgTo T (s + 1) = if 2 ^ s ∈ T.sets then tgTo T s ++ [(s : Int)] else tgTo T s := by
  unfold tgTo statesZ
  rw [List.range_succ, List.map_append, List.filter_append]
  by_cases h : 2 ^ s ∈ T.sets <;> simp [h]
theorem tgTo_len (T : Tour) (s : Nat) : (tgTo T s).length ≤ s := by unfold tgTo statesZ; exact Nat.le_trans (List.length_filter_le _ _) (by simp)
theorem tgK_len (T : Tour) (n k : Nat) : (tgK T n k).length ≤ n := by unfold tgK statesZ; exact Nat.le_trans (List.length_filter_le _ _) (by simp)

def tgZs (st : Int) (xss : List (List Int)) : List Int := if validB st xss = true then tgTo (allTour st xss) st.toNat else []
def tgCd (st : Int) (xss : List (List Int)) : Int := if validB st xss = true then (if (tgTo (allTour st xss) st.toNat).length = 0 then 6 else 0) else 1
theorem tgZs_len (st : Int) (xss : List (List Int)) : (tgZs st xss).length ≤ 1024 := by
  unfold tgZs
  split
  · rename_i hv
    obtain ⟨n, hg⟩ := good_of hv
    have := tgTo_len (allTour st xss) st.toNat
    have := hg.st
    have := hg.hi
    omega
  · simp

set_option maxRecDepth 100000 in
set_option maxHeartbeats 4000000 in
theorem specTargets_any (st : Int) (v : Value) (xss : List (List Int)) (w : World) (h1 : Rows2 w v xss) :
    Calls Try.prog 22 #[.agg #[.int .i64 st, v]] w (NewInts2 (tgZs st xss) (tgCd st xss) w) := by
  obtain ⟨ao, m, c, rfl, HM⟩ := h1.shape
  obtain ⟨W1, hW1⟩ : ∃ W1, W1 = w.alloc (.cells #[.int .i64 st, .slice ao m c] 26) := ⟨_, rfl⟩
  have bx : Below w.heap.size w W1 := by rw [hW1]; exact below_alloc (Below.refl _ _) _
  have p0 : W1.cell? ⟨w.heap.size, 0, none⟩ = some (.int .i64 st) := by rw [hW1]; go_simp
  have p1 : W1.cell? ⟨w.heap.size, 1, none⟩ = some (.slice ao m c) := by rw [hW1]; go_simp
  have HOK := Lib.hid (l01Ok_any w.heap.size 0 st _ xss W1 p0 p1 (h1.kept bx))
  cases hv : validB st xss
  · rw [show tgZs st xss = [] by simp [tgZs, hv], show tgCd st xss = 1 by simp [tgCd, hv]]
    rw [hv] at HOK
    subst hW1
    clear hv h1
    go_enter Try.func22, Try.ntmps22
    go_wp2_with fail
    refine HOK.out.mono ?_
    rintro e w2 ⟨rfl, hq⟩
    have hb := hq.below (w.alloc (.cells #[.int .i64 st, .slice ao m c] 26)).heap.size
    have HE := Lib.hid (own_empty w2 w.heap.size (by have := hb.size; simp at this; omega) 2)
    go_wp2
    go_ret2
    exact ⟨_, rfl, HE.out, below_trans bx (below_trans hb (below_alloc (Below.refl _ _) _))⟩
  · obtain ⟨n, hg⟩ := good_of hv
    rw [show tgZs st xss = tgTo (tourOf xss (2 ^ n - 1)) n by unfold tgZs; rw [if_pos hv, hg.allTour, show st.toNat = n by have := hg.st; omega], show tgCd st xss = if (tgTo (tourOf xss (2 ^ n - 1)) n).length = 0 then 6 else 0 by unfold tgCd; rw [if_pos hv, hg.allTour, show st.toNat = n by have := hg.st; omega]]
    rw [hv] at HOK
    obtain rfl := hg.st
    have hn10 := hg.hi
    have HFU := Lib.hid (fun W (hW : Below W1.heap.size W1 W) => l02Full_any w.heap.size n W (below_cell hW p0) hg.hi)
    have HFR := Lib.hid (fun W (hW : Below W1.heap.size W1 W) => l02From_any w.heap.size n _ xss n (2 ^ n - 1) W (below_cell hW p0) (below_cell hW p1) ((h1.kept bx).kept hW) hg hg.full)
    have hT := hg.tour
    have hz := NzT.outer hg.rows hg.len3 hg.full (by have := Nat.pow_le_pow_right (n := 2) (by decide) hg.lo; omega) 1024
    change NzT (tourOf xss (2 ^ n - 1)) at hz
    have hp := outerT_pos xss (2 ^ n - 1) 1024
    change 0 < (tourOf xss (2 ^ n - 1)).length at hp
    generalize tourOf xss (2 ^ n - 1) = T at HFR hT hp hz ⊢
    have hlen := hT.len10 hn10
    have HLT := Lib.hid (fun k (hk : k < T.length) => hT.lt10 hn10 hk)
    have HSET := Lib.hid (fun k (hk : k < T.length) W => l02Set_any (T.at k).1 W (hT.lt10 hn10 hk))
    have HYES := Lib.hid (fun k (hk : k < T.length) (hs : smallB (T.at k).1 = true) => tgK_yes (n := n) hs (hz _ (Tour.at_mem hk)) (hT.lt _ (Tour.at_mem hk)) hn10)
    have HONE := Lib.hid (fun k (hk : k < T.length) (hs : smallB (T.at k).1 = true) => (small_fact' (hT.lt10 hn10 hk) hs (hz _ (Tour.at_mem hk))).2.2)
    have HNO := Lib.hid (fun k (hs : smallB (T.at k).1 = false) => tgK_no (n := n) hs hn10)
    have HLN := Lib.hid (fun k => tgK_len T n k)
    have HALL := Lib.hid (tgK_all T n)
    have HTD := Lib.hid (fun (vz : Value) zs ok lo w hwn => l02Told_any vz zs ok lo w hwn)
    generalize 2 ^ n - 1 = full at HFU HFR
    obtain ⟨cd, hcd⟩ : ∃ cd : Int, cd = if (tgTo T n).length = 0 then 6 else 0 := ⟨_, rfl⟩
    rw [← hcd]
    have HCD := Lib.hid hcd
    clear hcd
    have E1 : Hid (W1.heap.size = w.heap.size + 1) := by unfold Hid; rw [hW1]; simp
    subst hW1
    clear hv h1 hg hT hz
    go_enter Try.func22, Try.ntmps22
    go_wp2_with fail
    refine HOK.out.mono ?_
    rintro e w2 ⟨rfl, hq⟩
    have hb := hq.below (w.alloc (.cells #[.int .i64 n, .slice ao m c] 26)).heap.size
    go_wp2_with fail
    refine (HFU.out _ hb).mono ?_
    rintro e w3 ⟨rfl, rfl⟩
    go_wp2_with fail
    refine (HFR.out _ hb).mono ?_
    rintro e w4 ⟨tb, s, bv, l, bs, ls, rfl, hw, hb4⟩
    obtain ⟨sg, sc, rfl, hsc⟩ := own_some hw.hs hp
    have t0 : w4.cell? ⟨tb, 0, none⟩ = some (.slice (some ⟨sg, 0, none⟩) T.length sc) := by have := hw.st.cellAt 0 (by omega); simpa using this
    have CS := Lib.hid (fun k (hk : k < T.length) => walk_set hw hk)
    have hbb := below_trans bx (below_trans hb hb4)
    have hlo : w.heap.size ≤ w4.heap.size := hbb.size
    have HE := Lib.hid (own_empty w4 w.heap.size hlo 2)
    clear hw HFU HFR HOK
    go_wp2
    go_loopw [5, 6] (fun u i wr => ∃ k : Nat, k ≤ T.length ∧ i = .int .i64 k ∧ Hid (wr.ownsRow w.heap.size 2 1 u (tgK T n k).length ((tgK T n k).map (Value.int .i64))) ∧ Below w4.heap.size w4 wr) (fun _ i _ => T.length - (intOf i).toNat)
    case atStart => exact ⟨0, Nat.zero_le _, rfl, by rw [tgK_zero]; exact HE.out, below_alloc (Below.refl _ _) _⟩
    case round =>
      obtain ⟨k, hk, rfl, HO, hbr⟩ := hrel
      have t1 := below_cell hbr t0
      obtain ⟨au, mu, cu, rfl, HMu⟩ := own_shape HO.out
      have hlk := HLN.out k
      by_cases hlt : k < T.length
      · have i1 := idx_of Try.underlying89 size1_i (ao := some ⟨sg, 0, none⟩) (b := sg) (o := 0) (n := T.length) (c := sc) (fun _ => rfl) hlt .i64
        rw [Nat.zero_add] at i1
        have d3 := below_cell hbr (CS.out k hlt)
        have hl2 := HLT.out k hlt
        have HSG := Lib.hid (fun W => l02Single_any (T.at k).1 W hl2)
        have HSK := Lib.hid (HSET.out k hlt)
        have HY := Lib.hid (HYES.out k hlt)
        have HN := Lib.hid (HNO.out k)
        have HON := Lib.hid (HONE.out k hlt)
        obtain ⟨fk, hfk⟩ : ∃ fk, fk = (T.at k).1 := ⟨_, rfl⟩
        rw [← hfk] at d3 HSK HSG HY HN HON
        clear hfk hl2
        cases hsm : smallB fk
        · rw [hsm] at HSG
          have HNN := Lib.hid (HN.out hsm)
          clear hsm
          go_wp2_with fail
          refine (HSG.out _).mono ?_
          rintro e w6 ⟨rfl, rfl⟩
          go_wp2
          go_roundw
          case rel => exact ⟨k + 1, by omega, by go_num, by rw [HNN.out]; exact HO.out, hbr⟩
          case measure => simp [intOf]; omega
        · rw [hsm] at HSG
          have HYY := Lib.hid (HY.out hsm)
          have HO1 := HON.out hsm
          rw [HO1] at HSK
          have HPU := Lib.hid (fun W (hW : Below wr.heap.size wr W) => l00Put_any (.slice au mu cu) (tgK T n k) (onlyOf fk) W ((ints_of_own HO.out).kept hW) (by omega))
          clear hsm HO1
          go_wp2_with fail
          refine (HSG.out _).mono ?_
          rintro e w6 ⟨rfl, rfl⟩
          go_wp2_with fail
          refine (HSK.out _).mono ?_
          rintro e w7 ⟨v7, rfl, ho7, hb7⟩
          obtain ⟨g7, c7, rfl, _⟩ := own_some ho7 (by simp)
          have d7 : w7.cell? ⟨g7, 0, none⟩ = some (.int .i64 (onlyOf fk)) := by have := ho7.cellAt 0 (by simp); simpa using this
          have i7 := idx_of Try.underlying38 size1_int (ao := some ⟨g7, 0, none⟩) (b := g7) (o := 0) (n := 1) (c := c7) (fun _ => rfl) (k := 0) (by omega) .i64
          have hb47 := below_trans hbr hb7
          clear ho7
          go_wp2_with fail
          refine (HPU.out _ hb7).mono ?_
          rintro e w8 ⟨v8, rfl, ho8, hb8⟩
          have HO8 := Lib.hid (own_lo ho8 (show w.heap.size ≤ w7.heap.size by have := hb47.size; omega))
          have hb48 := below_trans hb47 hb8
          clear ho8
          go_wp2
          go_roundw
          case rel => exact ⟨k + 1, by omega, by go_num, by rw [HYY.out]; exact HO8.out, hb48⟩
          case measure => simp [intOf]; omega
      · obtain rfl : k = T.length := by omega
        have hmu : mu = (tgTo T n).length := by have := HMu.out; rw [HALL.out] at this; exact this
        have HO2 := HO.out
        rw [HALL.out] at HO2
        have HO3 := Lib.hid HO2
        have hbw := below_trans hbb hbr
        have hsz := hbw.size
        clear HO2 HMu HO
        obtain ⟨zs, hzs⟩ : ∃ zs, zs = tgTo T n := ⟨_, rfl⟩
        rw [← hzs] at HO3 hmu HCD
        have HZS := Lib.hid hzs
        clear hzs
        subst hmu
        by_cases h0 : zs.length = 0
        · obtain rfl : zs = [] := List.eq_nil_of_length_eq_zero h0
          obtain rfl : cd = 6 := HCD.out
          have HTK := Lib.hid (HTD.out (.slice au 0 cu) [] false w.heap.size wr (fun _ => rfl) HO3.out hsz)
          clear h0
          go_wp2_with fail
          refine HTK.out.mono ?_
          rintro e w9 ⟨v9, rfl, ho9, hb9⟩
          have HO9 := Lib.hid ho9
          clear ho9
          go_wp2
          go_ret2
          exact ⟨_, rfl, by rw [← HZS.out]; exact HO9.out, below_trans hbw hb9⟩
        · have hgt : decide (0 < zs.length) = true := decide_eq_true (by omega)
          have HTK := Lib.hid (HTD.out (.slice au zs.length cu) zs true w.heap.size wr (fun h => by cases h) HO3.out hsz)
          obtain rfl : cd = 0 := by have := HCD.out; rwa [if_neg h0] at this
          clear h0
          go_wp2_with fail
          refine HTK.out.mono ?_
          rintro e w9 ⟨v9, rfl, ho9, hb9⟩
          have HO9 := Lib.hid ho9
          clear ho9
          go_wp2
          go_ret2
          exact ⟨_, rfl, by rw [← HZS.out]; exact HO9.out, below_trans hbw hb9⟩

theorem field_tour1 (a b : Value) : ∀ w, Sem.run Try.prog (Instr.field 100 (.agg #[a, b]) 1) w = .ok b w := fun _ => by kernel_rfl

set_option maxRecDepth 100000 in
set_option maxHeartbeats 4000000 in
theorem implTargets_any (st : Int) (v : Value) (xss : List (List Int)) (w : World) (h1 : Rows2 w v xss) :
    Calls Try.prog 24 #[.agg #[.int .i64 st, v]] w (NewInts2 (tgZs st xss) (tgCd st xss) w) := by
  obtain ⟨ao, m, c, rfl, HM⟩ := h1.shape
  obtain ⟨W1, hW1⟩ : ∃ W1, W1 = w.alloc (.cells #[.int .i64 st, .slice ao m c] 26) := ⟨_, rfl⟩
  have bx : Below w.heap.size w W1 := by rw [hW1]; exact below_alloc (Below.refl _ _) _
  have p0 : W1.cell? ⟨w.heap.size, 0, none⟩ = some (.int .i64 st) := by rw [hW1]; go_simp
  have p1 : W1.cell? ⟨w.heap.size, 1, none⟩ = some (.slice ao m c) := by rw [hW1]; go_simp
  have HOK := Lib.hid (validAuto_any st _ xss W1 (h1.kept bx))
  cases hv : validB st xss
  · rw [show tgZs st xss = [] by simp [tgZs, hv], show tgCd st xss = 1 by simp [tgCd, hv]]
    rw [hv] at HOK
    subst hW1
    clear hv h1
    go_enter Try.func24, Try.ntmps24
    go_wp2_with fail
    refine HOK.out.mono ?_
    rintro e w2 ⟨rfl, hb⟩
    go_wp2
    go_ret2
    exact ⟨_, rfl, World.ownsRow_nil _ _ _ _, below_trans bx hb⟩
  · obtain ⟨n, hg⟩ := good_of hv
    rw [show tgZs st xss = tgTo (tourOf xss (2 ^ n - 1)) n by unfold tgZs; rw [if_pos hv, hg.allTour, show st.toNat = n by have := hg.st; omega], show tgCd st xss = if (tgTo (tourOf xss (2 ^ n - 1)) n).length = 0 then 6 else 0 by unfold tgCd; rw [if_pos hv, hg.allTour, show st.toNat = n by have := hg.st; omega]]
    rw [hv] at HOK
    obtain rfl := hg.st
    have hn10 := hg.hi
    have HAL := Lib.hid (fun W => autoAll_any n n m c ao W rfl hn10)
    have HFO := Lib.hid (fun (u : Value) W (hi : Ints W u ((List.range n).map fun (s : Nat) => (s : Int))) => flockOf_any u _ W hi (range_in hn10))
    rw [full_bits] at HFO
    have HTR := Lib.hid (fun W (hW : Below w.heap.size w W) => tour_any n _ xss n (2 ^ n - 1) W (h1.kept hW) hg hg.full)
    have hlen := hg.tour.len10 hn10
    generalize tourOf xss (2 ^ n - 1) = T at HTR hlen ⊢
    generalize 2 ^ n - 1 = full at HFO HTR
    obtain ⟨cd, hcd⟩ : ∃ cd : Int, cd = if (tgTo T n).length = 0 then 6 else 0 := ⟨_, rfl⟩
    rw [← hcd]
    have HCD := Lib.hid hcd
    clear hcd
    have HTS := Lib.hid (tgTo_succ T)
    have HTL := Lib.hid (tgTo_len T)
    have E1 : Hid (W1.heap.size = w.heap.size + 1) := by unfold Hid; rw [hW1]; simp
    subst hW1
    clear hv h1 hg
    go_enter Try.func24, Try.ntmps24
    go_wp2_with fail
    refine HOK.out.mono ?_
    rintro e w2 ⟨rfl, hb⟩
    replace p0 := below_cell hb p0
    replace p1 := below_cell hb p1
    have bw2 := below_trans bx hb
    have hz2 := block_lt_of_cell p0
    have hfd := field_tour1
    go_wp2
    go_region_held3 (fun w' => Below w2.heap.size w2 w' ∧ ∀ b o, b < w2.heap.size → w'.cell? ⟨b, o, none⟩ = w2.cell? ⟨b, o, none⟩) (first | exact held_start | assumption | exact held_nx (by assumption) (by assumption) | exact held_alloc (by assumption))
      (first
        | (go_simp; go_at_call 73; refine (HAL.out _).mono ?_; rintro e w3 ⟨v3, rfl, ho3, hb3⟩; obtain ⟨a3, m3, c3, rfl, HM3⟩ := own_shape ho3)
        | (go_simp; go_at_call 72; refine (HFO.out _ _ (by first | exact ints_of_own ho3 | exact (ints_of_own ho3).kept (below_alloc (Below.refl _ _) _))).mono ?_; rintro e w4 ⟨rfl, rfl⟩)
        | (go_simp; go_at_call 71; refine (HTR.out _ (below_trans bw2 (And.left (by assumption)))).mono ?_; rintro e w5 ⟨lv, mb, rfl, hol, hwm, hb5⟩; obtain ⟨a5, m5, c5, rfl, HM5⟩ := own_shape hol))
    all_goals
      rename Below w2.heap.size w2 _ ∧ _ => hS
      obtain ⟨hwf, hcs⟩ := hS
      have q0 := below_cell hwf p0
      obtain ⟨F, hmp, hwd⟩ := hwm
      have HMET := Lib.hid hwd.met
      have hs3 : w2.heap.size ≤ w3.heap.size := by have := hb3.size; (try simp at this); omega
      have hs5 : w2.heap.size ≤ w5.heap.size := by have := hb5.size; (try simp at this); omega
      clear hcs hwd hol
      go_wp2
      go_loopw [4, 21] (fun u i wr => ∃ s : Nat, s ≤ n ∧ i = .int .i64 s ∧ Hid (wr.ownsRow w2.heap.size 2 1 u (tgTo T s).length ((tgTo T s).map (Value.int .i64))) ∧ Hid (MapAt Try.prog 103 wr mb T.length F) ∧ Below w2.heap.size w2 wr) (fun _ i _ => n - (intOf i).toNat)
      case atStart =>
        refine ⟨0, Nat.zero_le _, rfl, ?_, ?_, hwf⟩
        · unfold Hid
          show World.ownsRow _ _ _ _ _ 0 []
          first | exact own_empty _ _ hs5 _ | exact own_below (own_empty _ _ hs3 _) hb5 | exact own_below (own_below (own_drew (own_empty _ _ (Nat.le_refl _) _)) hb3) hb5
        · unfold Hid
          first | exact hmp | exact hmp.below (below_alloc (Below.refl _ _) _)
      case round =>
        obtain ⟨s, hs, rfl, HO, HMP, hbr⟩ := hrel
        obtain ⟨au, mu, cu, rfl, HMu⟩ := own_shape HO.out
        have q1 := below_cell hbr p0
        have hls := HTL.out s
        by_cases hlt : s < n
        · have hs2 : 2 ^ s < 2 ^ 10 := Nat.pow_lt_pow_right (a := 2) (by decide) (by omega)
          have hk := key_flock (s := 2 ^ s) hs2
          have hlook := HMP.out.lookOk flock_law Try.underlying98 (zero_ints wr) hk
          rw [HMET.out] at hlook
          have HTT := Lib.hid (HTS.out s)
          obtain ⟨u, hu⟩ : ∃ u, u = (F (.int .u64 ((2 ^ s : Nat) : Int))).getD (.slice none 0 0) := ⟨_, rfl⟩
          rw [← hu, ← wrap_pow_u64 (n := s) (by omega)] at hlook
          clear hu hk hs2
          by_cases hin : 2 ^ s ∈ T.sets
          · rw [decide_eq_true hin] at hlook
            have HT2 := HTT.out
            rw [if_pos hin] at HT2
            have HT3 := Lib.hid HT2
            have hne := HMP.out.ne_own HO.out
            have HNE := Lib.hid hne
            clear hin HT2 hne
            go_wp2_with (at_builtin; refine wpList_push elem_int rfl (.tmp 32) (.tmp 34) rfl w2.heap.size rfl HO.out _ rfl rfl (by unfold maxLen; omega) (by omega) hbr.size ?_; intro v6 w6 ho6 hg6 hs6)
            have HO6 := Lib.hid ho6
            have HM6 : Hid (MapAt Try.prog 103 w6 mb T.length F) := HMP.out.kept hg6 HNE.out
            have hb6 : Below w2.heap.size w2 w6 := Below.grown hbr hg6 hbr.size (fun g hg => (own_block HO.out hg).1)
            clear ho6 hg6 hs6 hlook
            go_wp2
            go_roundw
            case rel => exact ⟨s + 1, by omega, by go_num, by rw [HT3.out, List.length_append]; exact (snocZ (tgTo T s) s) ▸ HO6.out, HM6.out, hb6⟩
            case measure => simp [intOf]; omega
          · rw [decide_eq_false hin] at hlook
            have HT2 := HTT.out
            rw [if_neg hin] at HT2
            have HT3 := Lib.hid HT2
            clear hin HT2
            go_wp2
            go_roundw
            case rel => exact ⟨s + 1, by omega, by go_num, by rw [HT3.out]; exact HO.out, HMP.out, hbr⟩
            case measure => simp [intOf]; omega
        · obtain rfl : s = n := by omega
          have hbw := below_trans bw2 hbr
          have hsz := hbw.size
          have hlow := bw2.size
          obtain ⟨zs, hzs⟩ : ∃ zs, zs = tgTo T s := ⟨_, rfl⟩
          have hmu : mu = zs.length := by rw [hzs]; exact HMu.out
          have HO3 : Hid (wr.ownsRow w2.heap.size 2 1 (.slice au mu cu) zs.length (zs.map (Value.int .i64))) := by rw [hzs]; exact HO.out
          rw [← hzs] at HCD
          have HZS := Lib.hid hzs
          clear hzs HMu HO
          subst hmu
          by_cases h0 : zs.length = 0
          · obtain rfl : zs = [] := List.eq_nil_of_length_eq_zero h0
            obtain rfl : cd = 6 := HCD.out
            clear h0
            go_wp2
            go_ret2
            exact ⟨_, rfl, by rw [← HZS.out]; exact World.ownsRow_nil _ _ _ _, hbw⟩
          · have hne0 : ((zs.length : Int) == 0) = false := by simp; intro h; exact h0 (by rw [h]; rfl)
            obtain rfl : cd = 0 := by have := HCD.out; rwa [if_neg h0] at this
            clear h0
            go_wp2
            go_ret2
            exact ⟨_, rfl, by rw [← HZS.out]; exact own_lo HO3.out hlow, hbw⟩

end Go.Proofs.Ytbcfnibpdfonkaa
