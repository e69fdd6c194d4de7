/- How owned slices and owned rows fare behind calls, stores and appends. Plain facts on worlds. -/
import Derived.Test.YtocdkeidjocmkaaBase
namespace Go.Proofs.Ytocdkeidjocmkaa
set_option linter.unusedVariables false
set_option linter.unusedSimpArgs false
open Go.RowKit

section
variable {w w' : World} {lo lo' : Nat} {e : TypeId} {s : Nat} {v : Value} {n : Nat} {xs : List Value}

theorem own_block (h : w.ownsRow lo e s v n xs) {g : Nat} (hg : v.ownBlock = some g) : lo ≤ g ∧ g < w.heap.size := h.lt g hg

theorem own_below (h : w.ownsRow lo e s v n xs) (hb : Below w.heap.size w w') : w'.ownsRow lo e s v n xs := by
  refine ⟨h.1, ?_⟩
  rcases h.2 with hn | ⟨g, cap, cur, rfl, h1, hg, rest⟩
  · exact .inl hn
  · exact .inr ⟨g, cap, cur, rfl, h1, (hb.block g (Array.getElem?_eq_some_iff.1 hg).1).trans hg, rest⟩

theorem own_lo (h : w.ownsRow lo e s v n xs) (hl : lo' ≤ lo) : w.ownsRow lo' e s v n xs := by
  refine ⟨h.1, ?_⟩
  rcases h.2 with hn | ⟨g, cap, cur, rfl, h1, hg, rest⟩
  · exact .inl hn
  · exact .inr ⟨g, cap, cur, rfl, Nat.le_trans hl h1, hg, rest⟩

/-- the block's element type -/
theorem own_type (h : w.ownsRow lo e s v n xs) {g : Nat} (hg : v.ownBlock = some g) : ∃ cur, w.heap[g]? = some (.cells cur e (0, 0)) := by
  rcases h.2 with ⟨rfl, _⟩ | ⟨g', cap, cur, rfl, _, hgg, _⟩
  · simp [Value.ownBlock] at hg
  · simp [Value.ownBlock] at hg; subst hg; exact ⟨cur, hgg⟩

/-- rows of two element types lie in two blocks -/
theorem own_ne {e2 : TypeId} {v2 : Value} {n2 lo2 s2 : Nat} {xs2 : List Value} (h : w.ownsRow lo e s v n xs) (h2 : w.ownsRow lo2 e2 s2 v2 n2 xs2) (he : e ≠ e2) : v.ownBlock = none ∨ v.ownBlock ≠ v2.ownBlock := by
  cases hv : v.ownBlock with
  | none => exact .inl rfl
  | some g =>
    refine .inr fun hh => he ?_
    obtain ⟨c, hc⟩ := own_type h hv
    obtain ⟨c2, hc2⟩ := own_type h2 hh.symm
    rw [hc] at hc2
    simp at hc2
    exact hc2.2

/-- a change within a range that the block is out of -/
theorem own_chg {lo1 hi1 : Nat} (h : w.ownsRow lo e s v n xs) (hb : Chg lo1 hi1 w w') (ho : ∀ g, v.ownBlock = some g → g < lo1 ∨ hi1 ≤ g) : w'.ownsRow lo e s v n xs := by
  refine ⟨h.1, ?_⟩
  rcases h.2 with hn | ⟨g, cap, cur, rfl, h1, hg, rest⟩
  · exact .inl hn
  · exact .inr ⟨g, cap, cur, rfl, h1, (hb.block g (Array.getElem?_eq_some_iff.1 hg).1 (ho g rfl)).trans hg, rest⟩

theorem own_shape (h : w.ownsRow lo e s v n xs) : ∃ ao m c, v = .slice ao m c ∧ Hid (m = n) := by
  rcases h.2 with ⟨rfl, rfl⟩ | ⟨g, cap, cur, rfl, _⟩
  · exact ⟨_, _, _, rfl, rfl⟩
  · exact ⟨_, _, _, rfl, rfl⟩

/-- where there is an element there is a block -/
theorem own_some (h : w.ownsRow lo e s v n xs) (h0 : 0 < n) : ∃ g cap, v = .slice (some ⟨g, 0, none⟩) n cap ∧ n ≤ cap := by
  rcases h.2 with ⟨_, h1⟩ | ⟨g, cap, cur, rfl, _, _, hc, _⟩
  · omega
  · exact ⟨g, cap, rfl, hc⟩
end

section
variable {w w' : World} {lo lo' : Nat} {v : Value} {rs : List Value} {zss : List (List Int)}

theorem OwnRows.below (h : OwnRows w lo v rs zss) (hb : Below w.heap.size w w') : OwnRows w' lo v rs zss :=
  ⟨own_below h.outer hb, fun k hk => own_below (h.row k hk) hb, h.apart⟩
theorem OwnRows.mono (h : OwnRows w lo v rs zss) (hl : lo' ≤ lo) : OwnRows w lo' v rs zss :=
  ⟨own_lo h.outer hl, fun k hk => own_lo (h.row k hk) hl, h.apart⟩

/-- all blocks lie between -/
structure RowsIn (lo hi : Nat) (v : Value) (rs : List Value) (n : Nat) : Prop where
  outer : ∀ g, v.ownBlock = some g → lo ≤ g ∧ g < hi
  row : ∀ k, k < n → ∀ g, (rs.getD k undef).ownBlock = some g → lo ≤ g ∧ g < hi

theorem OwnRows.within (h : OwnRows w lo v rs zss) : RowsIn lo w.heap.size v rs zss.length :=
  ⟨fun _ hg => own_block h.outer hg, fun k hk _ hg => own_block (h.row k hk) hg⟩

theorem OwnRows.chg {lo1 hi1 lo2 hi2 : Nat} (h : OwnRows w lo v rs zss) (hin : RowsIn lo2 hi2 v rs zss.length) (hb : Chg lo1 hi1 w w') (ho : hi2 ≤ lo1 ∨ hi1 ≤ lo2) : OwnRows w' lo v rs zss :=
  ⟨own_chg h.outer hb fun g hg => by have := hin.outer g hg; omega, fun k hk => own_chg (h.row k hk) hb fun g hg => by have := hin.row k hk g hg; omega, h.apart⟩

theorem getD_set_same {α : Type} (l : List α) (k : Nat) (x d : α) (h : k < l.length) : (l.set k x).getD k d = x := by simp [List.getD_eq_getElem?_getD, h]
theorem getD_set_other {α : Type} (l : List α) (k j : Nat) (x d : α) (h : j ≠ k) : (l.set k x).getD j d = l.getD j d := by simp [List.getD_eq_getElem?_getD, h.symm]

/-- one row has got other numbers -/
theorem OwnRows.turned (h : OwnRows w lo v rs zss) {k : Nat} (hk : k < zss.length) {ys : List Int} (hl : ys.length = (zss.getD k []).length) (hg : w.grownBy w' (rs.getD k undef).ownBlock)
    (hown : w'.ownsRow lo 2 1 (rs.getD k undef) ys.length (ys.map (Value.int .i64))) : OwnRows w' lo v rs (zss.set k ys) := by
  refine ⟨?_, fun j hj => ?_, fun i j hij hj => h.apart i j hij (by simpa using hj)⟩
  · rw [List.length_set]
    refine h.outer.kept hg ?_
    exact own_ne h.outer (h.row k hk) (by decide)
  · rw [List.length_set] at hj
    rcases Nat.lt_trichotomy j k with hjk | rfl | hjk
    · rw [getD_set_other _ _ _ _ _ (by omega)]
      exact (h.row j hj).kept hg (h.apart j k hjk hk)
    · rw [getD_set_same _ _ _ _ hj]
      exact hown
    · rw [getD_set_other _ _ _ _ _ (by omega)]
      refine (h.row j hj).kept hg ?_
      cases hv : (rs.getD j undef).ownBlock with
      | none => exact .inl rfl
      | some g =>
        refine .inr fun hh => ?_
        rcases h.apart k j hjk hj with hn | hn
        · rw [hn] at hh; simp at hh
        · exact hn (hh.symm.trans hv.symm)

/-- a row is stored at place k -/
theorem OwnRows.store {g cap n : Nat} (h : OwnRows w lo (.slice (some ⟨g, 0, none⟩) n cap) rs zss) (hn : n = zss.length) {k : Nat} (hk : k < zss.length) {r : Value} {ys : List Int}
    (hr : w.ownsRow lo 2 1 r ys.length (ys.map (Value.int .i64))) (hne : ∀ i, i < zss.length → (rs.getD i undef).ownBlock = none ∨ (rs.getD i undef).ownBlock ≠ r.ownBlock) :
    OwnRows (w.setCell ⟨g, k, none⟩ r) lo (.slice (some ⟨g, 0, none⟩) n cap) (rs.set k r) (zss.set k ys) ∧ w.grownBy (w.setCell ⟨g, k, none⟩ r) (some g) := by
  have hlen := h.len
  subst hn
  obtain ⟨h1, h2⟩ := h.outer.stored k r
  refine ⟨⟨by rw [List.length_set]; exact h1, fun j hj => ?_, fun i j hij hj => ?_⟩, h2⟩
  · rw [List.length_set] at hj
    by_cases hjk : j = k
    · subst hjk
      rw [getD_set_same _ _ _ _ hj, getD_set_same _ _ _ _ (by omega)]
      exact hr.kept h2 (by
        have := own_ne hr h.outer (by decide)
        simpa [Value.ownBlock] using this)
    · rw [getD_set_other _ _ _ _ _ hjk, getD_set_other _ _ _ _ _ hjk]
      exact (h.row j hj).kept h2 (by
        have := own_ne (h.row j hj) h.outer (by decide)
        simpa [Value.ownBlock] using this)
  · rw [List.length_set] at hj
    by_cases hik : i = k
    · subst hik
      rw [getD_set_same _ _ _ _ (by omega), getD_set_other _ _ _ _ _ (by omega)]
      cases hv : r.ownBlock with
      | none => exact .inl rfl
      | some q =>
        refine .inr fun hh => ?_
        rcases hne j hj with hx | hx
        · rw [hx] at hh; simp at hh
        · exact hx (hh.symm.trans hv.symm)
    · rw [getD_set_other _ _ _ _ _ hik]
      by_cases hjk : j = k
      · subst hjk
        rw [getD_set_same _ _ _ _ (by omega)]
        exact hne i (by omega)
      · rw [getD_set_other _ _ _ _ _ hjk]
        exact h.apart i j hij hj

/-- a row is appended -/
theorem OwnRows.append {v' r : Value} {ys : List Int} (h : OwnRows w lo v rs zss) (hg : w.grownBy w' v.ownBlock) (ho : w'.ownsRow lo 55 1 v' (zss.length + 1) (rs ++ [r]))
    (hr : w.ownsRow lo 2 1 r ys.length (ys.map (Value.int .i64))) (hne : ∀ i, i < zss.length → (rs.getD i undef).ownBlock = none ∨ (rs.getD i undef).ownBlock ≠ r.ownBlock) :
    OwnRows w' lo v' (rs ++ [r]) (zss ++ [ys]) := by
  have hlen := h.len
  have hold : ∀ i, i < zss.length → (rs ++ [r]).getD i undef = rs.getD i undef := fun i hi => by simp [List.getD_eq_getElem?_getD, List.getElem?_append, hlen, hi]
  have hnew : (rs ++ [r]).getD zss.length undef = r := by simp [List.getD_eq_getElem?_getD, hlen]
  have hold' : ∀ i, i < zss.length → (zss ++ [ys]).getD i [] = zss.getD i [] := fun i hi => by simp [List.getD_eq_getElem?_getD, List.getElem?_append, hi]
  have hnew' : (zss ++ [ys]).getD zss.length [] = ys := by simp [List.getD_eq_getElem?_getD]
  refine ⟨by simpa using ho, fun j hj => ?_, fun i j hij hj => ?_⟩
  · rw [List.length_append, List.length_singleton] at hj
    by_cases hjn : j < zss.length
    · rw [hold j hjn, hold' j hjn]
      exact (h.row j hjn).kept hg (own_ne (h.row j hjn) h.outer (by decide))
    · obtain rfl : j = zss.length := by omega
      rw [hnew, hnew']
      exact hr.kept hg (own_ne hr h.outer (by decide))
  · rw [List.length_append, List.length_singleton] at hj
    by_cases hjn : j < zss.length
    · rw [hold j hjn, hold i (by omega)]
      exact h.apart i j hij hjn
    · obtain rfl : j = zss.length := by omega
      rw [hnew, hold i (by omega)]
      exact hne i (by omega)

end

/-- it returns a new slice of numbers -/
def NewInts (zs : List Int) (w : World) (e : Ending) (w' : World) : Prop :=
  ∃ v, e = .returned v ∧ w'.ownsRow w.heap.size 2 1 v zs.length (zs.map (Value.int .i64)) ∧ Below w.heap.size w w'
/-- it returns new rows of numbers -/
def NewRows (zss : List (List Int)) (w : World) (e : Ending) (w' : World) : Prop :=
  ∃ v rs, e = .returned v ∧ OwnRows w' w.heap.size v rs zss ∧ Below w.heap.size w w'

/-- it returns v; nothing that was there has changed -/
def RetB (v : Value) (w : World) (e : Ending) (w' : World) : Prop := e = .returned v ∧ Below w.heap.size w w'
/-- rows that are no more than the law lets -/
def ArgRows (w : World) (v : Value) (xss : List (List Int)) : Prop := Rows2 w v xss ∧ xss.length + bulk2 xss ≤ 1048576
/-- the size's answer, where memory may have been made -/
def SzPost2 (l0 : Int) (total : Nat) (w : World) (e : Ending) (w' : World) : Prop :=
  Below w.heap.size w w' ∧ ∃ r : Int, e = .returned (.int .i64 r) ∧ (r = -1 ∨ (0 ≤ r ∧ r + total = l0))
/-- the rows are marked from k0 on -/
def Marked2 (v : Value) (lo hi : Nat) (rs : List Value) (xss : List (List Int)) (k0 : Int) (w : World) (e : Ending) (w' : World) : Prop :=
  e = .returned (.int .i64 (k0 + bulk2 xss)) ∧ OwnRows w' lo v rs (numRows k0 xss) ∧ Chg lo hi w w'
theorem chg_alloc {lo hi : Nat} {a w : World} (h : Chg lo hi a w) (o : Obj) : Chg lo hi a (w.alloc o) :=
  h.trans ⟨rfl, rfl, rfl, by simp, fun k hk _ => Below.heap_alloc w o k hk⟩

theorem fill_step {α : Type} (zs : List α) (d : α) (k : Nat) (h : k < zs.length) : (zs.take k ++ List.replicate (zs.length - k) d).set k (zs.getD k d) = zs.take (k + 1) ++ List.replicate (zs.length - (k + 1)) d := by
  have e : zs.length - k = (zs.length - (k + 1)) + 1 := by omega
  have hl : (zs.take k).length = k := by rw [List.length_take]; omega
  rw [e, List.replicate_succ, List.set_append_right _ _ (by omega), hl, Nat.sub_self, List.set_cons_zero, List.take_succ_eq_append_getElem h, List.append_assoc, List.getD_eq_getElem?_getD, List.getElem?_eq_getElem h]
  rfl

theorem run_step (k0 : Int) (k : Nat) (xs : List Int) (h : k < xs.length) : (run k0 k ++ xs.drop k).set k (k0 + k) = run k0 (k + 1) ++ xs.drop (k + 1) := by
  have e : xs.drop k = xs[k] :: xs.drop (k + 1) := List.drop_eq_getElem_cons h
  rw [e, List.set_append_right _ _ (by rw [run_length]; omega), run_length, Nat.sub_self, List.set_cons_zero]
  unfold run
  rw [List.range_succ, List.map_append, List.append_assoc]
  rfl

theorem grown_trans {a b c : World} {r : Option Nat} (h : a.grownBy b r) (h' : b.grownBy c r) : a.grownBy c r :=
  ⟨h'.os.trans h.os, h'.tape.trans h.tape, h'.output.trans h.output, Nat.le_trans h.size h'.size, fun k hk hr => (h'.block k (Nat.lt_of_lt_of_le hk h.size) hr).trans (h.block k hk hr)⟩

theorem getD_fill {α : Type} (zs : List α) (d : α) (k j : Nat) (h : j < k) : (zs.take k ++ List.replicate (zs.length - k) d).getD j d = zs.getD j d := by
  simp only [List.getD_eq_getElem?_getD, List.getElem?_append, List.getElem?_take, List.length_take, List.getElem?_replicate]
  by_cases hz : j < zs.length
  · rw [if_pos (by omega), if_pos h]
  · rw [if_neg (by omega), if_neg (by omega), List.getElem?_eq_none (by omega)]

theorem OwnRows.set_below {w : World} {lo : Nat} {v : Value} {rs : List Value} {zss : List (List Int)} (h : OwnRows w lo v rs zss) {b : Nat} (hb : b < lo) (o : Nat) (u : Value) : OwnRows (w.setCell ⟨b, o, none⟩ u) lo v rs zss :=
  ⟨ownsRow_setCell_below h.outer hb u, fun k hk => ownsRow_setCell_below (h.row k hk) hb u, h.apart⟩
theorem OwnRows.alloc {w : World} {lo : Nat} {v : Value} {rs : List Value} {zss : List (List Int)} (h : OwnRows w lo v rs zss) (o : Obj) : OwnRows (w.alloc o) lo v rs zss :=
  ⟨h.outer.alloc o, fun k hk => (h.row k hk).alloc o, h.apart⟩

theorem bcell {W w1 : World} (hb : Below W.heap.size W w1) : (∀ b o, b < W.heap.size → w1.cell? ⟨b, o, none⟩ = W.cell? ⟨b, o, none⟩) ∧ (∀ b o, b < W.heap.size → w1.frozen? ⟨b, o, none⟩ = W.frozen? ⟨b, o, none⟩) :=
  ⟨fun b o h => hb.cell (p := ⟨b, o, none⟩) h, fun b o h => hb.frozen (p := ⟨b, o, none⟩) h⟩
theorem Chg.cell {lo hi : Nat} {w w' : World} (h : Chg lo hi w w') {b o : Nat} {u : Value} (hc : w.cell? ⟨b, o, none⟩ = some u) (ho : b < lo ∨ hi ≤ b) : w'.cell? ⟨b, o, none⟩ = some u :=
  (World.cell?_of_block (h.block b (block_lt_of_cell hc) ho)).trans hc
theorem Below.cellOf {B : Nat} {w w' : World} (h : Below B w w') {b o : Nat} {u : Value} (hc : w.cell? ⟨b, o, none⟩ = some u) (ho : b < B) : w'.cell? ⟨b, o, none⟩ = some u := (h.cell (p := ⟨b, o, none⟩) ho).trans hc
theorem below_cell {w w' : World} (h : Below w.heap.size w w') {b o : Nat} {u : Value} (hc : w.cell? ⟨b, o, none⟩ = some u) : w'.cell? ⟨b, o, none⟩ = some u := (h.cell (p := ⟨b, o, none⟩) (block_lt_of_cell hc)).trans hc

/-- all that lay in w0 lies in w' -/
theorem held_start {w0 : World} : Below w0.heap.size w0 w0.drew ∧ ∀ b o, b < w0.heap.size → w0.drew.cell? ⟨b, o, none⟩ = w0.cell? ⟨b, o, none⟩ := ⟨(Below.refl _ _).drew, fun _ _ _ => rfl⟩
theorem held_next {w0 w1 w2 : World} (h : Below w0.heap.size w0 w1 ∧ ∀ b o, b < w0.heap.size → w1.cell? ⟨b, o, none⟩ = w0.cell? ⟨b, o, none⟩) (hb : Below w1.heap.size w1 w2) :
    Below w0.heap.size w0 w2 ∧ ∀ b o, b < w0.heap.size → w2.cell? ⟨b, o, none⟩ = w0.cell? ⟨b, o, none⟩ :=
  have hh := h.1.trans (hb.mono h.1.size)
  ⟨hh, fun b o h => hh.cell (p := ⟨b, o, none⟩) h⟩
theorem held_step1 {w w1 w2 : World} {b o : Nat} {u : Value} (h : w1.cell? ⟨b, o, none⟩ = some u ∧ Below w.heap.size w w1) (hb : Below w1.heap.size w1 w2) : w2.cell? ⟨b, o, none⟩ = some u ∧ Below w.heap.size w w2 :=
  ⟨(hb.cell (block_lt_of_cell h.1)).trans h.1, h.2.trans (hb.mono h.2.size)⟩

theorem below_alloc {a w : World} (h : Below a.heap.size a w) (o : Obj) : Below a.heap.size a (w.alloc o) := h.alloc h.size o
theorem below_set {a w : World} (h : Below a.heap.size a w) {b : Nat} (hb : a.heap.size ≤ b) (o : Nat) (u : Value) : Below a.heap.size a (w.setCell ⟨b, o, none⟩ u) := h.setCell hb u
theorem below_trans {a b c : World} (h : Below a.heap.size a b) (h' : Below b.heap.size b c) : Below a.heap.size a c := h.trans (h'.mono h.size)

end Go.Proofs.Ytocdkeidjocmkaa
