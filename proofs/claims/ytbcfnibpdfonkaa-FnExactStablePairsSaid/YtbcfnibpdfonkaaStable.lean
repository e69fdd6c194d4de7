/- Stable pairs: the parts, of the reference and of the program. -/
import Derived.Test.YtbcfnibpdfonkaaPairTable
namespace Go.Proofs.Ytbcfnibpdfonkaa
set_option linter.unusedVariables false
set_option linter.unusedSimpArgs false
open Go.ChangeShapes Go.WideShapes Go.ChangeAt Go.RowKit

/-- does a set have two states that no word merges? -/
def badB (ok : Nat → Nat → Bool) (f : Nat) : Bool := decide ((setTo f 10).length = 2) && !(ok ((setTo f 10).getD 0 0) ((setTo f 10).getD 1 0))
/-- a pair is stable -/
def stB (xss : List (List Int)) (s t : Nat) : Bool := !(anyAt (fun k => badB (mgOk xss) ((mgT xss s t).at k).1) (mgT xss s t).length)

/-- the pairs (s, t), s < t, of which something is so -/
def pairRow (P : Nat → Nat → Bool) (s m : Nat) : List (List Int) := ((List.range m).filter fun j => P s (s + 1 + j)).map fun j => [(s : Int), ((s + 1 + j : Nat) : Int)]
def pairsTo (P : Nat → Nat → Bool) (n : Nat) : Nat → List (List Int)
  | 0 => []
  | s + 1 => pairsTo P n s ++ pairRow P s (n - (s + 1))
def pairsUp (P : Nat → Nat → Bool) (n s m : Nat) : List (List Int) := pairsTo P n s ++ pairRow P s m
theorem pairsUp_zero (P : Nat → Nat → Bool) (n s : Nat) : pairsUp P n s 0 = pairsTo P n s := by simp [pairsUp, pairRow]
theorem pairsUp_all (P : Nat → Nat → Bool) (n s : Nat) : pairsUp P n s (n - (s + 1)) = pairsTo P n (s + 1) := rfl
theorem pairsUp_yes {P : Nat → Nat → Bool} {n s m : Nat} (h : P s (s + 1 + m) = true) : pairsUp P n s m ++ [[(s : Int), ((s + 1 + m : Nat) : Int)]] = pairsUp P n s (m + 1) := by
  unfold pairsUp pairRow
  rw [List.range_succ, List.filter_append, List.map_append]
  simp [h]
theorem pairsUp_no {P : Nat → Nat → Bool} {n s m : Nat} (h : P s (s + 1 + m) = false) : pairsUp P n s m = pairsUp P n s (m + 1) := by
  unfold pairsUp pairRow
  rw [List.range_succ, List.filter_append, List.map_append]
  simp [h]
theorem pairRow_len (P : Nat → Nat → Bool) (s m : Nat) : (pairRow P s m).length ≤ m := by
  unfold pairRow
  rw [List.length_map]
  exact Nat.le_trans (List.length_filter_le _ _) (by simp)
theorem pairsTo_len (P : Nat → Nat → Bool) (n : Nat) : ∀ s, (pairsTo P n s).length ≤ s * n := by
  intro s
  induction s with
  | zero => simp [pairsTo]
  | succ s ih =>
    have := pairRow_len P s (n - (s + 1))
    rw [pairsTo, List.length_append, Nat.succ_mul]
    omega
theorem pairsUp_len {P : Nat → Nat → Bool} {n s m : Nat} (hn : n ≤ 10) (hs : s ≤ n) (hm : m ≤ n) : (pairsUp P n s m).length ≤ 200 := by
  have h1 := pairsTo_len P n s
  have h2 := pairRow_len P s m
  have h3 : s * n ≤ 10 * 10 := Nat.mul_le_mul (by omega) hn
  unfold pairsUp
  rw [List.length_append]
  omega
theorem pairRow_in (P : Nat → Nat → Bool) (s m : Nat) : ∀ l ∈ pairRow P s m, l.length = 2 := by
  intro l hl
  unfold pairRow at hl
  rw [List.mem_map] at hl
  obtain ⟨j, _, rfl⟩ := hl
  rfl
theorem pairsTo_in (P : Nat → Nat → Bool) (n : Nat) : ∀ s, ∀ l ∈ pairsTo P n s, l.length = 2 := by
  intro s
  induction s with
  | zero => intro l hl; simp [pairsTo] at hl
  | succ s ih =>
    intro l hl
    rw [pairsTo, List.mem_append] at hl
    rcases hl with hl | hl
    · exact ih l hl
    · exact pairRow_in P s _ l hl
theorem bulk_two : ∀ (l : List (List Int)), (∀ x ∈ l, x.length = 2) → bulk2 l = 2 * l.length := by
  intro l
  induction l with
  | nil => intro _; rfl
  | cons a l ih =>
    intro h
    have h1 := ih fun x hx => h x (List.mem_cons_of_mem _ hx)
    have h2 := h a (List.mem_cons_self ..)
    unfold bulk2 at h1 ⊢
    rw [List.map_cons, List.sum_cons, h1, h2, List.length_cons]
    omega

/-- the reads of a table of words -/
def TabOf (w : World) (tg n : Nat) (zs : Nat → Nat → List Int) (ok : Nat → Nat → Bool) : Prop :=
  ∀ s, s < n → ∃ (rg rc : Nat) (rs : List Value), w.cell? ⟨tg, s, none⟩ = some (.slice (some ⟨rg, 0, none⟩) n rc) ∧ ∀ t, t < n → w.cell? ⟨rg, t, none⟩ = some (rs.getD t undef) ∧ NilIf (ok s t) (zs s t).length (rs.getD t undef)
theorem TabOf.below {w w' : World} {tg n : Nat} {zs : Nat → Nat → List Int} {ok : Nat → Nat → Bool} (h : TabOf w tg n zs ok) (hb : Below w.heap.size w w') : TabOf w' tg n zs ok := by
  intro s hs
  obtain ⟨rg, rc, rs, h1, h2⟩ := h s hs
  exact ⟨rg, rc, rs, below_cell hb h1, fun t ht => ⟨below_cell hb (h2 t ht).1, (h2 t ht).2⟩⟩
theorem MTab.tabOf {w : World} {lo g c n : Nat} {Rs : List Value} {zs : Nat → Nat → List Int} {ok : Nat → Nat → Bool} (h : MTab w lo (.slice (some ⟨g, 0, none⟩) Rs.length c) Rs n zs ok) (hn : 0 < n) (hl : Rs.length = n) : TabOf w g n zs ok := by
  intro s hs
  obtain ⟨rg, rc, rs, _, h1, h2⟩ := h.at hn (s := s) (by omega)
  exact ⟨rg, rc, rs, h1, h2⟩

theorem set_lt {f n : Nat} (hf : f < 2 ^ n) (hn : n ≤ 10) : ∀ x ∈ setTo f 10, x < n := by
  intro x hx
  rw [setTo_eq (k := 10) (m := n) (Nat.lt_of_lt_of_le hf (Nat.pow_le_pow_right (by decide) hn)) hf] at hx
  exact setTo_lt hx
theorem two_of {l : List Nat} (h : l.length = 2) : ∃ x y, l = [x, y] := by
  match l, h with
  | [x, y], _ => exact ⟨x, y, rfl⟩

set_option maxRecDepth 100000 in
theorem steadyLit_any (f b n tg tc : Nat) (zs : Nat → Nat → List Int) (ok : Nat → Nat → Bool) (W : World) (hf : f < 2 ^ n) (hn : n ≤ 10) (hb : W.cell? ⟨b, 0, none⟩ = some (.slice (some ⟨tg, 0, none⟩) n tc)) (hT : TabOf W tg n zs ok) :
    Calls Try.prog 151 #[.int .u64 f, .pointer (some ⟨b, 0, none⟩)] W (RetB (.bool (badB ok f)) W) := by
  have hf10 : f < 1024 := Nat.lt_of_lt_of_le hf (Nat.pow_le_pow_right (by decide) hn)
  have HS := Lib.hid (flockSet_any f W hf10)
  have hlt := set_lt hf hn
  unfold badB
  generalize setTo f 10 = S at HS hlt ⊢
  by_cases h2 : S.length = 2
  · obtain ⟨x, y, rfl⟩ := two_of h2
    have hx := hlt x (by simp)
    have hy := hlt y (by simp)
    obtain ⟨rg, rc, rs, d0, hrow⟩ := hT x hx
    obtain ⟨d1, hni⟩ := hrow y hy
    rw [show (decide (([x, y] : List Nat).length = 2) && !(ok (([x, y] : List Nat).getD 0 0) (([x, y] : List Nat).getD 1 0))) = !(ok x y) from by simp]
    have i3 := idx_of Try.underlying66 size1_rows (ao := some ⟨tg, 0, none⟩) (b := tg) (o := 0) (n := n) (c := tc) (fun _ => rfl) hx .i64
    have i4 := idx_of Try.underlying22 size1_ints (ao := some ⟨rg, 0, none⟩) (b := rg) (o := 0) (n := n) (c := rc) (fun _ => rfl) hy .i64
    rw [Nat.zero_add] at i3 i4
    generalize zs x y = z at hni
    obtain ⟨u, hu⟩ : ∃ u, u = rs.getD y undef := ⟨_, rfl⟩
    rw [← hu] at d1 hni
    generalize ok x y = o at hni ⊢
    clear hT hrow h2 hlt hu
    cases o
    · obtain rfl := hni.1 rfl
      have hnil := nil_yes
      clear hni
      go_enter Try.func151, Try.ntmps151
      go_wp2_with fail
      refine HS.out.mono ?_
      rintro e w2 ⟨v2, rfl, ho, hb2⟩
      obtain ⟨g2, c2, rfl, _⟩ := own_some ho (by simp)
      have s0 : w2.cell? ⟨g2, 0, none⟩ = some (.int .i64 x) := by have := ho.cellAt 0 (by simp); simpa using this
      have s1 : w2.cell? ⟨g2, 1, none⟩ = some (.int .i64 y) := by have := ho.cellAt 1 (by simp); simpa using this
      have i1 := idx_of Try.underlying38 size1_int (ao := some ⟨g2, 0, none⟩) (b := g2) (o := 0) (n := 2) (c := c2) (fun _ => rfl) (k := 0) (by omega) .i64
      have i2 := idx_of Try.underlying38 size1_int (ao := some ⟨g2, 0, none⟩) (b := g2) (o := 0) (n := 2) (c := c2) (fun _ => rfl) (k := 1) (by omega) .i64
      replace hb := below_cell hb2 hb
      replace d0 := below_cell hb2 d0
      replace d1 := below_cell hb2 d1
      clear ho
      go_wp2
      go_quiet (fail)
      go_wp2
      go_ret
      exact ⟨rfl, below_drewN' hb2 _⟩
    · obtain ⟨xg, xc, rfl⟩ := hni.2 rfl
      have hnil := nil_no xg z.length xc
      clear hni
      go_enter Try.func151, Try.ntmps151
      go_wp2_with fail
      refine HS.out.mono ?_
      rintro e w2 ⟨v2, rfl, ho, hb2⟩
      obtain ⟨g2, c2, rfl, _⟩ := own_some ho (by simp)
      have s0 : w2.cell? ⟨g2, 0, none⟩ = some (.int .i64 x) := by have := ho.cellAt 0 (by simp); simpa using this
      have s1 : w2.cell? ⟨g2, 1, none⟩ = some (.int .i64 y) := by have := ho.cellAt 1 (by simp); simpa using this
      have i1 := idx_of Try.underlying38 size1_int (ao := some ⟨g2, 0, none⟩) (b := g2) (o := 0) (n := 2) (c := c2) (fun _ => rfl) (k := 0) (by omega) .i64
      have i2 := idx_of Try.underlying38 size1_int (ao := some ⟨g2, 0, none⟩) (b := g2) (o := 0) (n := 2) (c := c2) (fun _ => rfl) (k := 1) (by omega) .i64
      replace hb := below_cell hb2 hb
      replace d0 := below_cell hb2 d0
      replace d1 := below_cell hb2 d1
      clear ho
      go_wp2
      go_quiet (fail)
      go_wp2
      go_ret
      exact ⟨rfl, below_drewN' hb2 _⟩
  · have hne : ((S.length : Int) == 2) = false := by simp; omega
    rw [show (decide (S.length = 2) && !(ok (S.getD 0 0) (S.getD 1 0))) = false from by simp [h2]]
    clear hT h2 hlt
    go_enter Try.func151, Try.ntmps151
    go_wp2_with fail
    refine HS.out.mono ?_
    rintro e w2 ⟨v2, rfl, ho, hb2⟩
    obtain ⟨a2, m2, c2, rfl, HM2⟩ := own_shape ho
    obtain rfl : m2 = S.length := by have := HM2.out; simpa using this
    clear ho HM2
    go_wp2
    go_quiet (fail)
    go_wp2
    go_ret
    exact ⟨rfl, below_drewN' hb2 _⟩

end Go.Proofs.Ytbcfnibpdfonkaa
