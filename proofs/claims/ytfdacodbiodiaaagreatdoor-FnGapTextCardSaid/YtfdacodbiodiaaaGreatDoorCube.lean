/- Lists of rows: [][][]int64 that is read, that the call owns; the laws' helpers at it. One contract each. Written by gen_cube.py. -/
import Derived.Test.YtfdacodbiodiaaaGreatDoorHelp2
namespace Go.Proofs.YtfdacodbiodiaaaGreatDoor
set_option linter.unusedVariables false
set_option linter.unusedSimpArgs false
open Go.ChangeShapes Go.WideShapes Go.ChangeAt Go.RowKit

/-- v reads as the lists of rows -/
def Rows3 (w : World) (v : Value) (zsss : List (List (List Int))) : Prop :=
  ∃ rs : List Value, Sl w v rs ∧ rs.length = zsss.length ∧ ∀ k, k < zsss.length → Rows2 w (rs.getD k undef) (zsss.getD k [])

structure CubeAt (w : World) (v : Value) (zsss : List (List (List Int))) (ao : Option Addr) (b o c : Nat) : Prop where
  val : v = .slice ao zsss.length c
  adr : 0 < zsss.length → ao = some ⟨b, o, none⟩
  cell : ∀ k, k < zsss.length → ∃ r, w.cell? ⟨b, o + k, none⟩ = some r ∧ Rows2 w r (zsss.getD k [])
  len : zsss.length ≤ 9223372036854775807

theorem Rows3.open {w : World} {v : Value} {zsss : List (List (List Int))} (h : Rows3 w v zsss) : ∃ ao b o c, CubeAt w v zsss ao b o c := by
  obtain ⟨rs, ⟨ao, b, o, c, hv, ha, hc, hl⟩, hn, hr⟩ := h
  exact ⟨ao, b, o, c, by rw [← hn]; exact hv, by rw [← hn]; exact ha, fun k hk => ⟨_, hc k (by omega), hr k hk⟩, by omega⟩
theorem Rows3.kept {w w' : World} {v : Value} {zsss : List (List (List Int))} (h : Rows3 w v zsss) (hb : Below w.heap.size w w') : Rows3 w' v zsss := by
  obtain ⟨rs, hs, hn, hr⟩ := h
  exact ⟨rs, hs.kept hb, hn, fun k hk => (hr k hk).kept hb⟩
theorem Rows3.drewN {w : World} {v : Value} {zsss : List (List (List Int))} (h : Rows3 w v zsss) (n : Nat) : Rows3 (w.drewN n) v zsss := h.kept (below_drewN' (Below.refl _ _) n)
theorem Rows3.shape {w : World} {v : Value} {xsss : List (List (List Int))} (h : Rows3 w v xsss) : ∃ ao m c, v = .slice ao m c ∧ Hid (m = xsss.length) := by
  obtain ⟨ao, b, o, c, H⟩ := h.open
  exact ⟨_, _, _, H.val, rfl⟩
theorem Qu.cube {w w' : World} (h : Qu w w') {v : Value} {zs : List (List (List Int))} (hi : Rows3 w v zs) : Rows3 w' v zs := hi.kept (h.below _)
theorem cube_ext {xs ys : List (List (List Int))} (hl : xs.length = ys.length) (h : ∀ j, j < xs.length → xs.getD j [] = ys.getD j []) : xs = ys :=
  List.ext_getElem hl fun j h1 h2 => by simpa [List.getD_eq_getElem?_getD, h1, h2] using h j h1

/-- rows 0 .. n - 1 are owned, the blocks of row k lie from f k on and below f (k + 1) -/
def CubeRows (w : World) (lo : Nat) (rs : List Value) (f : Nat → Nat) (n : Nat) (zsss : List (List (List Int))) : Prop :=
  f n ≤ w.heap.size ∧ ∀ k, k < n → f k ≤ f (k + 1) ∧ ∃ rss, OwnRows w lo (rs.getD k undef) rss (zsss.getD k []) ∧ RowsIn (f k) (f (k + 1)) (rs.getD k undef) rss (zsss.getD k []).length

/-- lists of rows that the call owns -/
structure OwnCube (w : World) (lo : Nat) (v : Value) (rs : List Value) (zsss : List (List (List Int))) : Prop where
  outer : w.ownsRow lo 24 1 v zsss.length rs
  rows : ∃ f, CubeRows w lo rs f zsss.length zsss

section
variable {w w' : World} {lo lo' n : Nat} {v : Value} {rs : List Value} {f : Nat → Nat} {zsss : List (List (List Int))}

theorem CubeRows.mono_f (h : CubeRows w lo rs f n zsss) : ∀ k, k ≤ n → f k ≤ f n := by
  have H : ∀ d k, k + d = n → f k ≤ f n := by
    intro d
    induction d with
    | zero => intro k hk; obtain rfl : k = n := by omega
              exact Nat.le_refl _
    | succ d ih => intro k hk; exact Nat.le_trans (h.2 k (by omega)).1 (ih (k + 1) (by omega))
  exact fun k hk => H (n - k) k (by omega)
theorem CubeRows.below (h : CubeRows w lo rs f n zsss) (hb : Below w.heap.size w w') : CubeRows w' lo rs f n zsss :=
  ⟨Nat.le_trans h.1 hb.size, fun k hk => ⟨(h.2 k hk).1, by obtain ⟨rss, h1, h2⟩ := (h.2 k hk).2; exact ⟨rss, h1.below hb, h2⟩⟩⟩
theorem CubeRows.lower (h : CubeRows w lo rs f n zsss) (hl : lo' ≤ lo) : CubeRows w lo' rs f n zsss :=
  ⟨h.1, fun k hk => ⟨(h.2 k hk).1, by obtain ⟨rss, h1, h2⟩ := (h.2 k hk).2; exact ⟨rss, h1.mono hl, h2⟩⟩⟩
theorem OwnRows.kept_out {r : Value} {rss : List Value} {zss : List (List Int)} {lo2 n2 : Nat} {xs : List Value} (h : OwnRows w lo r rss zss) (ho : w.ownsRow lo2 24 1 v n2 xs) (hg : w.grownBy w' v.ownBlock) : OwnRows w' lo r rss zss :=
  ⟨h.outer.kept hg (own_ne h.outer ho (by decide)), fun k hk => (h.row k hk).kept hg (own_ne (h.row k hk) ho (by decide)), h.apart⟩
theorem CubeRows.kept_out {lo2 n2 : Nat} {xs : List Value} (h : CubeRows w lo rs f n zsss) (ho : w.ownsRow lo2 24 1 v n2 xs) (hg : w.grownBy w' v.ownBlock) : CubeRows w' lo rs f n zsss :=
  ⟨Nat.le_trans h.1 hg.size, fun k hk => ⟨(h.2 k hk).1, by obtain ⟨rss, h1, h2⟩ := (h.2 k hk).2; exact ⟨rss, h1.kept_out ho hg, h2⟩⟩⟩
theorem CubeRows.congr {rs2 : List Value} {zsss2 : List (List (List Int))} (h : CubeRows w lo rs f n zsss) (h1 : ∀ k, k < n → rs2.getD k undef = rs.getD k undef) (h2 : ∀ k, k < n → zsss2.getD k [] = zsss.getD k []) : CubeRows w lo rs2 f n zsss2 :=
  ⟨h.1, fun k hk => by rw [h1 k hk, h2 k hk]; exact h.2 k hk⟩
/-- one row more, whose blocks are new -/
theorem CubeRows.snoc {W : World} {r : Value} {rss : List Value} {zss : List (List Int)} (h : CubeRows w lo rs f n zsss) (hf : f n ≤ W.heap.size) (ho : OwnRows w lo r rss zss) (hi : RowsIn W.heap.size w.heap.size r rss zss.length) (hs : W.heap.size ≤ w.heap.size) (hr : rs.getD n undef = r) (hz : zsss.getD n [] = zss) :
    CubeRows w lo rs (fun k => if k ≤ n then f k else w.heap.size) (n + 1) zsss := by
  refine ⟨by simp only [show ¬ (n + 1 ≤ n) by omega, if_false]; exact Nat.le_refl _, fun k hk => ?_⟩
  by_cases hkn : k < n
  · obtain ⟨h1, h2⟩ := h.2 k hkn
    simp only [show k ≤ n by omega, show k + 1 ≤ n by omega, if_true]
    exact ⟨h1, h2⟩
  · obtain rfl : k = n := by omega
    simp only [Nat.le_refl, if_true, show ¬ (k + 1 ≤ k) by omega, if_false]
    rw [hr, hz]
    exact ⟨by omega, rss, ho, ⟨fun g hg => by have := hi.outer g hg; omega, fun j hj g hg => by have := hi.row j hj g hg; omega⟩⟩

theorem OwnCube.len (h : OwnCube w lo v rs zsss) : rs.length = zsss.length := by have := h.outer.1; omega
theorem OwnCube.reads (h : OwnCube w lo v rs zsss) : Rows3 w v zsss := by
  obtain ⟨f, hf⟩ := h.rows
  exact ⟨rs, sl_of_own h.outer, h.len, fun k hk => by obtain ⟨rss, h1, _⟩ := (hf.2 k hk).2; exact h1.reads⟩
theorem OwnCube.below (h : OwnCube w lo v rs zsss) (hb : Below w.heap.size w w') : OwnCube w' lo v rs zsss :=
  ⟨own_below h.outer hb, by obtain ⟨f, hf⟩ := h.rows; exact ⟨f, hf.below hb⟩⟩
theorem OwnCube.mono (h : OwnCube w lo v rs zsss) (hl : lo' ≤ lo) : OwnCube w lo' v rs zsss :=
  ⟨own_lo h.outer hl, by obtain ⟨f, hf⟩ := h.rows; exact ⟨f, hf.lower hl⟩⟩
theorem OwnCube.set_below (h : OwnCube w lo v rs zsss) {b : Nat} (hb : b < lo) (o : Nat) (u : Value) : OwnCube (w.setCell ⟨b, o, none⟩ u) lo v rs zsss :=
  ⟨ownsRow_setCell_below h.outer hb u, by
    obtain ⟨f, hf⟩ := h.rows
    exact ⟨f, by simpa using hf.1, fun k hk => ⟨(hf.2 k hk).1, by obtain ⟨rss, h1, h2⟩ := (hf.2 k hk).2; exact ⟨rss, h1.set_below hb o u, h2⟩⟩⟩⟩
end

/-- it returns new lists of rows -/
def NewCube (zsss : List (List (List Int))) (w : World) (e : Ending) (w' : World) : Prop :=
  ∃ v rs, e = .returned v ∧ OwnCube w' w.heap.size v rs zsss ∧ Below w.heap.size w w'
/-- a struct of a number and lists of rows -/
def NewChoice (st : Int) (xsss : List (List (List Int))) (w : World) (e : Ending) (w' : World) : Prop :=
  ∃ v rs, e = .returned (.agg #[.int .i64 st, v]) ∧ OwnCube w' w.heap.size v rs xsss ∧ Below w.heap.size w w'

/-- how many rows and numbers -/
def bulk3 (zsss : List (List (List Int))) : Nat := (zsss.map fun z => z.length + bulk2 z).sum
theorem bulk3_take (zsss : List (List (List Int))) (k : Nat) (h : k < zsss.length) : bulk3 (zsss.take (k + 1)) = bulk3 (zsss.take k) + ((zsss.getD k []).length + bulk2 (zsss.getD k [])) := by
  unfold bulk3
  rw [List.take_succ_eq_append_getElem h, List.map_append, List.sum_append]
  simp [List.getD_eq_getElem?_getD, h]
theorem bulk3_le (zsss : List (List (List Int))) (k : Nat) : bulk3 (zsss.take k) ≤ bulk3 zsss := by
  have h : bulk3 zsss = bulk3 (zsss.take k) + bulk3 (zsss.drop k) := by
    conv => lhs; rw [← List.take_append_drop k zsss]
    unfold bulk3; rw [List.map_append, List.sum_append]
  omega

/-- lists of rows that are no more than the law lets -/
def ArgCube (w : World) (v : Value) (xsss : List (List (List Int))) : Prop := Rows3 w v xsss ∧ xsss.length + bulk3 xsss ≤ 1048576
theorem info_rows : (Tryz.prog.info? 24).map (fun i => (i.zero, i.size, i.bytes)) = some (some (.slice none 0 0), 1, 24) := by kernel_rfl












end Go.Proofs.YtfdacodbiodiaaaGreatDoor
