/- The laws' copy of an automaton with choices: all its blocks parted. -/
import Derived.Test.YtocdkeidjocmkaaChoMark
namespace Go.Proofs.Ytocdkeidjocmkaa
set_option linter.unusedVariables false
set_option linter.unusedSimpArgs false
open Go.ChangeShapes Go.WideShapes Go.ChangeAt Go.RowKit

theorem CubeRows.step_f {w : World} {lo n : Nat} {rs : List Value} {f : Nat → Nat} {zsss : List (List (List Int))} (h : CubeRows w lo rs f n zsss) : ∀ d i, i + d ≤ n → f i ≤ f (i + d) := by
  intro d
  induction d with
  | zero => intro i _; exact Nat.le_refl _
  | succ d ih => intro i hi; exact Nat.le_trans (ih i (by omega)) (h.2 (i + d) (by omega)).1
theorem cubeIn_of {w : World} {lo : Nat} {v : Value} {rs : List Value} {f : Nat → Nat} {zsss : List (List (List Int))} (ho : w.ownsRow lo 22 1 v zsss.length rs) (hc : CubeRows w lo rs f zsss.length zsss) (h0 : ∀ g, v.ownBlock = some g → g < f 0) (hl : lo ≤ f 0) : CubeIn w lo w.heap.size v rs zsss := by
  have hm : ∀ i j, i ≤ j → j ≤ zsss.length → f i ≤ f j := fun i j hij hj => by
    have := hc.step_f (j - i) i (by omega)
    rwa [show i + (j - i) = j by omega] at this
  have hR : ∀ k, ∃ rss, k < zsss.length → OwnRows w lo (rs.getD k undef) rss (zsss.getD k []) ∧ RowsIn (f k) (f (k + 1)) (rs.getD k undef) rss (zsss.getD k []).length := fun k => by
    by_cases hk : k < zsss.length
    · obtain ⟨rss, h1, h2⟩ := (hc.2 k hk).2
      exact ⟨rss, fun _ => ⟨h1, h2⟩⟩
    · exact ⟨[], fun h => absurd h hk⟩
  obtain ⟨R, hR⟩ := Classical.axiomOfChoice hR
  refine ⟨f, fun k => f (k + 1), R, ho, fun g hg => (own_block ho hg).2, Nat.le_refl _, fun k hk g hg => ?_, fun k hk => ⟨?_, (hc.2 k hk).1, ?_⟩, fun i j hij hj => hm (i + 1) j (by omega) (by omega), fun k hk => hR k hk⟩
  · have h1 := h0 g hg
    have h2 := hm 0 k (by omega) (by omega)
    exact .inl (by omega)
  · have h2 := hm 0 k (by omega) (by omega)
    omega
  · exact Nat.le_trans (hm (k + 1) zsss.length (by omega) (Nat.le_refl _)) hc.1
theorem bulkN_le3 (zsss : List (List (List Int))) : bulkN zsss ≤ bulk3 zsss := by
  induction zsss with
  | nil => simp [bulkN, bulk3]
  | cons z zs ih =>
    simp only [bulkN, bulk3, List.map_cons, List.sum_cons] at ih ⊢
    omega
/-- it returns new lists of rows -/
def NewCubeIn (zsss : List (List (List Int))) (w : World) (e : Ending) (w' : World) : Prop :=
  ∃ v rs, e = .returned v ∧ CubeIn w' w.heap.size w'.heap.size v rs zsss ∧ Below w.heap.size w w'
def NewChoiceIn (st : Int) (xsss : List (List (List Int))) (w : World) (e : Ending) (w' : World) : Prop :=
  ∃ v rs, e = .returned (.agg #[.int .i64 st, v]) ∧ CubeIn w' w.heap.size w'.heap.size v rs xsss ∧ Below w.heap.size w w'

theorem toCubeIn_any (v1 : Value) (xsss : List (List (List Int))) (w : World) (h1 : Rows3 w v1 xsss) (hs : xsss.length + bulk3 xsss ≤ 1048576) :
    Calls Try.prog 73 #[v1] w (NewCubeIn xsss w) := by
  obtain ⟨ao1, p1, o1, c1, H1⟩ := h1.open
  obtain rfl := H1.val
  have hs1 : xsss.length ≤ 1048576 := by omega
  have HS := Lib.hid hs
  clear hs
  obtain ⟨i0, hi, hz0, hz1, hz2⟩ := info_parts info_rows
  go_enter Try.func73, Try.ntmps73
  go_wp2_with (at_make; refine wpList_make_full _ rfl _ _ 26 rfl w.heap.size 22 i0 (.slice none 0 0) 1 Try.underlying26 hi hz0 hz1 .i64 .i64 xsss.length xsss.length xsss.length rfl rfl rfl rfl (by rw [hz2]; omega) (by unfold maxLen; omega) (Nat.le_refl _) ?_; intro w1 hown hgr)
  have hs0 : (madeCells (Value.cells (.slice none 0 0)) (xsss.length * 1)).toList = List.replicate xsss.length (.slice none 0 0) := by
    show (madeCells #[Value.slice none 0 0] (xsss.length * 1)).toList = _
    rw [toList_madeCells_one]; simp
  rw [hs0] at hown
  have hbel : Below w.heap.size w w1 := Below.grown (Below.refl _ _) hgr (Nat.le_refl _) (by intro k h; cases h)
  have hlt1 : w.heap.size < w1.heap.size := (World.ownsRow.lt hown w.heap.size rfl).2
  have HOWN := Lib.hid hown
  clear hown hs0
  go_loopw [4] (fun i wr => ∃ k : Nat, k ≤ xsss.length ∧ i = .int .i64 k ∧ Hid (∃ rs f, wr.ownsRow w.heap.size 22 1 (.slice (some ⟨w.heap.size, 0, none⟩) xsss.length xsss.length) xsss.length rs ∧ CubeRows wr w.heap.size rs f k xsss ∧ w.heap.size < f 0) ∧ Below w.heap.size w wr) (fun i _ => xsss.length - (intOf i).toNat)
  case atStart => exact ⟨0, Nat.zero_le _, rfl, ⟨_, fun _ => w1.heap.size, HOWN.out, ⟨Nat.le_refl _, fun k hk => absurd hk (by omega)⟩, hlt1⟩, hbel⟩
  case round =>
    obtain ⟨k, hk, rfl, HO, hb⟩ := hrel
    by_cases hlt : k < xsss.length
    · have i1 := idx_of Try.underlying26 size1_rows (c := c1) H1.adr hlt .i64
      obtain ⟨r, d1, hr⟩ := H1.cell k hlt
      replace d1 := (hb.cell (block_lt_of_cell d1)).trans d1
      replace hr := hr.kept hb
      have e1 := bulk3_take xsss k hlt
      have e2 := bulk3_le xsss (k + 1)
      have HC := Lib.hid (toRows_any r (xsss.getD k []) wr hr (by have := HS.out; omega))
      clear hr e1 e2
      go_wp2_with fail
      refine HC.out.mono ?_
      rintro e w2 ⟨r2, rs2, rfl, hr2, hb2⟩
      obtain ⟨ao3, m3, c3, rfl, HM3⟩ := own_shape hr2.outer
      obtain ⟨rs, f, ho, hcr, hf0⟩ := HO.out
      have hlen : rs.length = xsss.length := by have := ho.1; omega
      have ho2 := own_below ho hb2
      have hcr2 := hcr.below hb2
      have hst := ho2.stored k (.slice ao3 m3 c3)
      have hg : w2.grownBy (w2.setCell ⟨w.heap.size, k, none⟩ (.slice ao3 m3 c3)) (Value.slice (some ⟨w.heap.size, 0, none⟩) xsss.length xsss.length).ownBlock := hst.2
      have hlo : w.heap.size ≤ wr.heap.size := hb.size
      have hnew := (hcr2.congr (rs2 := rs.set k (.slice ao3 m3 c3)) (zsss2 := xsss) (fun j hj => getD_set_other _ _ _ _ _ (by omega)) (fun j hj => rfl)).snoc (W := wr) hcr.1 (hr2.mono hlo) hr2.within hb2.size (getD_set_same _ _ _ _ (by omega)) rfl
      have hnew2 := hnew.kept_out ho2 hg
      have hc := ho2.cellAt k (by omega)
      have hsome : (w2.cell? ⟨w.heap.size, k, none⟩).isSome = true := by rw [hc]; simp; omega
      obtain ⟨u, hu⟩ := Option.isSome_iff_exists.1 hsome
      have hf := ho2.frozenAt k
      have hbel2 : Below w.heap.size w w2 := hb.trans (hb2.mono hb.size)
      have HST := Lib.hid hst.1
      have HNEW := Lib.hid hnew2
      have HB2 := Lib.hid hbel2
      clear hst hc hsome hlen ho ho2 hr2 hb2 hbel2 hcr hcr2 hnew hnew2 hg hlo
      go_wp2
      go_roundw
      case rel => exact ⟨k + 1, by omega, by go_num, ⟨_, _, HST.out, HNEW.out, by simpa using hf0⟩, HB2.out.setCell (by simp) _⟩
      case measure => simp [intOf]; omega
    · go_wp2
      go_ret
      obtain ⟨rs, f, ho, hcr, hf0⟩ := HO.out
      obtain rfl : k = xsss.length := by omega
      exact ⟨_, rs, rfl, cubeIn_of ho hcr (fun g hg => by simp [Value.ownBlock] at hg; omega) (by omega), hb⟩

theorem toChoiceIn_any (st : Int) (v : Value) (xss : List (List (List Int))) (w : World) (h1 : Rows3 w v xss) (hs : xss.length + bulk3 xss ≤ 1048576) :
    Calls Try.prog 38 #[.agg #[.int .i64 st, v]] w (NewChoiceIn st xss w) := by
  obtain ⟨ao, m, c, rfl, HM⟩ := h1.shape
  have HC := fun W (hb : Below w.heap.size w W) => toCubeIn_any _ xss W (h1.kept hb) hs
  have HH := Lib.hid HC
  clear h1 HC hs
  go_enter Try.func38, Try.ntmps38
  go_wp2_with fail
  refine (HH.out _ ?_).mono ?_
  · repeat (first | exact Below.refl _ _ | refine below_alloc ?_ _ | refine below_set ?_ (by first | omega | simp) _ _)
  rintro e w2 ⟨v2, rs, rfl, ho, hb⟩
  obtain ⟨ao2, m2, c2, rfl, HM2⟩ := own_shape ho.outer
  obtain ⟨hc, hf⟩ := bcell hb
  have hz : w.heap.size + 2 < w2.heap.size := by have := hb.size; simp at this; omega
  go_wp2
  refine bodyPost_ret (v := .agg #[.int .i64 st, .slice ao2 m2 c2]) (by simp [results, Try.results38, go_sem, hc, hz]) rfl ⟨_, rs, rfl, ?_, ?_⟩
  · refine CubeIn.mono (lo := w.heap.size + 3) ?_ (by omega)
    repeat (first | refine CubeIn.set_below ?_ (by first | omega | simp) _ _)
    simpa using ho
  · repeat (first | exact Below.refl _ _ | refine below_alloc ?_ _ | refine below_set ?_ (by first | omega | simp) _ _ | refine below_trans ?_ hb)

end Go.Proofs.Ytocdkeidjocmkaa
