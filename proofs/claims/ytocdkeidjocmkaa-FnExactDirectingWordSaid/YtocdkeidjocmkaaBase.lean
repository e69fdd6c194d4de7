/- Words for slices that are read and slices that the call owns, and how they fare when the world grows. Plain facts on worlds; no program. -/
import Derived.WalkKit
import Derived.ProofKit
import Derived.OpenShut
import Derived.BigQuiet
import Derived.Deep.QuietTactic
import Derived.Lib.Hide
import Derived.Laws.OwnMore
namespace Go.Proofs.Ytocdkeidjocmkaa
set_option linter.unusedVariables false
set_option linter.unusedSimpArgs false
open Go.RowKit

/-- v is a slice whose cells hold vs; at address (b, o) where it is not empty -/
structure SlAt (w : World) (v : Value) (vs : List Value) (ao : Option Addr) (b o c : Nat) : Prop where
  val : v = .slice ao vs.length c
  adr : 0 < vs.length → ao = some ⟨b, o, none⟩
  cell : ∀ k, k < vs.length → w.cell? ⟨b, o + k, none⟩ = some (vs.getD k undef)
  len : vs.length ≤ 9223372036854775807

def Sl (w : World) (v : Value) (vs : List Value) : Prop := ∃ ao b o c, SlAt w v vs ao b o c

/-- v reads as the numbers zs -/
def Ints (w : World) (v : Value) (zs : List Int) : Prop := Sl w v (zs.map (Value.int .i64))

/-- what the walk asks of a slice of numbers -/
structure IntsAt (w : World) (v : Value) (zs : List Int) (ao : Option Addr) (b o c : Nat) : Prop where
  val : v = .slice ao zs.length c
  adr : 0 < zs.length → ao = some ⟨b, o, none⟩
  cell : ∀ k, k < zs.length → w.cell? ⟨b, o + k, none⟩ = some (.int .i64 (zs.getD k 0))
  len : zs.length ≤ 9223372036854775807

theorem Ints.open {w : World} {v : Value} {zs : List Int} (h : Ints w v zs) : ∃ ao b o c, IntsAt w v zs ao b o c := by
  obtain ⟨ao, b, o, c, hv, ha, hc, hl⟩ := h
  refine ⟨ao, b, o, c, by simpa using hv, by simpa using ha, fun k hk => ?_, by simpa using hl⟩
  have := hc k (by simpa using hk)
  rw [this]
  simp [List.getD_eq_getElem?_getD, hk]

theorem IntsAt.shut {w : World} {v : Value} {zs : List Int} {ao : Option Addr} {b o c : Nat} (h : IntsAt w v zs ao b o c) : Ints w v zs := by
  refine ⟨ao, b, o, c, by simpa using h.val, by simpa using h.adr, fun k hk => ?_, by simpa using h.len⟩
  rw [h.cell k (by simpa using hk)]
  have hk' : k < zs.length := by simpa using hk
  simp [List.getD_eq_getElem?_getD, hk']

/-- the element's cell, under a name of its own -/
theorem IntsAt.at {w : World} {v : Value} {zs : List Int} {ao : Option Addr} {b o c : Nat} (h : IntsAt w v zs ao b o c) {k : Nat} (hk : k < zs.length) :
    ∃ z, zs.getD k 0 = z ∧ w.cell? ⟨b, o + k, none⟩ = some (.int .i64 z) := ⟨_, rfl, h.cell k hk⟩

theorem Sl.kept {w w' : World} {v : Value} {vs : List Value} (h : Sl w v vs) (hb : Below w.heap.size w w') : Sl w' v vs := by
  obtain ⟨ao, b, o, c, hv, ha, hc, hl⟩ := h
  exact ⟨ao, b, o, c, hv, ha, fun k hk => (hb.cell (block_lt_of_cell (hc k hk))).trans (hc k hk), hl⟩

theorem Ints.kept {w w' : World} {v : Value} {zs : List Int} (h : Ints w v zs) (hb : Below w.heap.size w w') : Ints w' v zs := Sl.kept h hb
theorem below_drewN' {B : Nat} {a w : World} (h : Below B a w) (n : Nat) : Below B a (w.drewN n) := h.trans ⟨rfl, rfl, rfl, Nat.le_refl _, fun _ _ => rfl⟩
theorem Ints.drewN {w : World} {v : Value} {zs : List Int} (h : Ints w v zs) (n : Nat) : Ints (w.drewN n) v zs := h.kept (below_drewN' (Below.refl _ _) n)

/-- v reads as the rows zss -/
def Rows2 (w : World) (v : Value) (zss : List (List Int)) : Prop :=
  ∃ rs : List Value, Sl w v rs ∧ rs.length = zss.length ∧ ∀ k, k < zss.length → Ints w (rs.getD k undef) (zss.getD k [])

structure RowsAt (w : World) (v : Value) (zss : List (List Int)) (ao : Option Addr) (b o c : Nat) : Prop where
  val : v = .slice ao zss.length c
  adr : 0 < zss.length → ao = some ⟨b, o, none⟩
  cell : ∀ k, k < zss.length → ∃ r, w.cell? ⟨b, o + k, none⟩ = some r ∧ Ints w r (zss.getD k [])
  len : zss.length ≤ 9223372036854775807

theorem Rows2.open {w : World} {v : Value} {zss : List (List Int)} (h : Rows2 w v zss) : ∃ ao b o c, RowsAt w v zss ao b o c := by
  obtain ⟨rs, ⟨ao, b, o, c, hv, ha, hc, hl⟩, hn, hr⟩ := h
  exact ⟨ao, b, o, c, by rw [← hn]; exact hv, by rw [← hn]; exact ha, fun k hk => ⟨_, hc k (by omega), hr k hk⟩, by omega⟩

theorem Rows2.kept {w w' : World} {v : Value} {zss : List (List Int)} (h : Rows2 w v zss) (hb : Below w.heap.size w w') : Rows2 w' v zss := by
  obtain ⟨rs, hs, hn, hr⟩ := h
  exact ⟨rs, hs.kept hb, hn, fun k hk => (hr k hk).kept hb⟩
theorem Rows2.drewN {w : World} {v : Value} {zss : List (List Int)} (h : Rows2 w v zss) (n : Nat) : Rows2 (w.drewN n) v zss := h.kept (below_drewN' (Below.refl _ _) n)

theorem Rows2.shape {w : World} {v : Value} {xss : List (List Int)} (h : Rows2 w v xss) : ∃ ao m c, v = .slice ao m c ∧ Hid (m = xss.length) := by
  obtain ⟨ao, b, o, c, H⟩ := h.open
  exact ⟨_, _, _, H.val, rfl⟩
theorem Ints.shape {w : World} {v : Value} {xs : List Int} (h : Ints w v xs) : ∃ ao m c, v = .slice ao m c ∧ Hid (m = xs.length) := by
  obtain ⟨ao, b, o, c, H⟩ := h.open
  exact ⟨_, _, _, H.val, rfl⟩

/-- what the call owns reads so -/
theorem sl_of_own {w : World} {lo : Nat} {e : TypeId} {v : Value} {n : Nat} {vs : List Value} (h : w.ownsRow lo e 1 v n vs) : Sl w v vs := by
  obtain ⟨hl, h⟩ := h
  rw [Nat.mul_one] at hl
  subst hl
  rcases h with ⟨rfl, h0⟩ | ⟨g, cap, cur, rfl, _, hg, hnc, hcm, hcs, htake⟩
  · exact ⟨none, 0, 0, 0, by rw [h0], by omega, fun k hk => by omega, by omega⟩
  · refine ⟨_, g, 0, cap, rfl, fun _ => rfl, fun k hk => ?_, by unfold maxLen at hcm; omega⟩
    rw [Nat.zero_add, cell_of_row w g k cur e (0, 0) hg]
    rw [Nat.mul_one] at htake
    have : vs[k]? = cur[k]? := by rw [← htake, List.getElem?_take, if_pos hk]; simp
    rw [← this]
    simp [List.getD_eq_getElem?_getD, hk]

theorem ints_of_own {w : World} {lo : Nat} {e : TypeId} {v : Value} {n : Nat} {zs : List Int} (h : w.ownsRow lo e 1 v n (zs.map (Value.int .i64))) : Ints w v zs := sl_of_own h

/-- rows that the call owns: the outer slice holds rs, row k owns the numbers zss k, no two rows share a block -/
structure OwnRows (w : World) (lo : Nat) (v : Value) (rs : List Value) (zss : List (List Int)) : Prop where
  outer : w.ownsRow lo 55 1 v zss.length rs
  row : ∀ k, k < zss.length → w.ownsRow lo 2 1 (rs.getD k undef) (zss.getD k []).length ((zss.getD k []).map (Value.int .i64))
  apart : ∀ i j, i < j → j < zss.length → (rs.getD i undef).ownBlock = none ∨ (rs.getD i undef).ownBlock ≠ (rs.getD j undef).ownBlock

theorem OwnRows.len {w : World} {lo : Nat} {v : Value} {rs : List Value} {zss : List (List Int)} (h : OwnRows w lo v rs zss) : rs.length = zss.length := by
  have := h.outer.1; omega
theorem OwnRows.reads {w : World} {lo : Nat} {v : Value} {rs : List Value} {zss : List (List Int)} (h : OwnRows w lo v rs zss) : Rows2 w v zss :=
  ⟨rs, sl_of_own h.outer, h.len, fun k hk => ints_of_own (h.row k hk)⟩

/-- w' is w but for the blocks lo .. hi - 1 (and new ones) -/
structure Chg (lo hi : Nat) (w w' : World) : Prop where
  os : w'.os = w.os
  tape : w'.tape = w.tape
  output : w'.output = w.output
  size : w.heap.size ≤ w'.heap.size
  block : ∀ k, k < w.heap.size → (k < lo ∨ hi ≤ k) → w'.heap[k]? = w.heap[k]?

theorem Chg.refl (lo hi : Nat) (w : World) : Chg lo hi w w := ⟨rfl, rfl, rfl, Nat.le_refl _, fun _ _ _ => rfl⟩
theorem Chg.trans {lo hi : Nat} {a b c : World} (h : Chg lo hi a b) (h' : Chg lo hi b c) : Chg lo hi a c :=
  ⟨h'.os.trans h.os, h'.tape.trans h.tape, h'.output.trans h.output, Nat.le_trans h.size h'.size, fun k hk ho => (h'.block k (Nat.lt_of_lt_of_le hk h.size) ho).trans (h.block k hk ho)⟩
theorem Chg.below {lo hi : Nat} {w w' : World} (h : Chg lo hi w w') (hl : lo ≤ w.heap.size) : Below lo w w' := ⟨h.os, h.tape, h.output, h.size, fun k hk => h.block k (by omega) (.inl hk)⟩
theorem Chg.of_grown {lo hi : Nat} {w w' : World} {row : Option Nat} (h : w.grownBy w' row) (hr : ∀ g, row = some g → lo ≤ g ∧ g < hi) : Chg lo hi w w' :=
  ⟨h.os, h.tape, h.output, h.size, fun k hk ho => h.block k hk fun e => by have := hr k e.symm; omega⟩
theorem Chg.drewN {lo hi : Nat} {a w : World} (h : Chg lo hi a w) (n : Nat) : Chg lo hi a (w.drewN n) := h.trans ⟨rfl, rfl, rfl, Nat.le_refl _, fun _ _ _ => rfl⟩

/-- w' is w but for draws -/
def Qu (w w' : World) : Prop := ∃ n, w' = w.drewN n
theorem Qu.refl (w : World) : Qu w w := ⟨0, rfl⟩
theorem Qu.drewN {w w' : World} (h : Qu w w') (n : Nat) : Qu w (w'.drewN n) := by obtain ⟨m, rfl⟩ := h; exact ⟨m + n, by simp⟩
theorem Qu.trans {a b c : World} (h : Qu a b) (h' : Qu b c) : Qu a c := by obtain ⟨n, rfl⟩ := h'; exact h.drewN n
theorem Qu.below {w w' : World} (h : Qu w w') (B : Nat) : Below B w w' := by obtain ⟨n, rfl⟩ := h; exact below_drewN' (Below.refl _ _) n
theorem Qu.size {w w' : World} (h : Qu w w') : w'.heap.size = w.heap.size := by obtain ⟨n, rfl⟩ := h; simp
theorem Qu.cell {w w' : World} (h : Qu w w') {a : Addr} {v : Value} (hc : w.cell? a = some v) : w'.cell? a = some v := by obtain ⟨n, rfl⟩ := h; simpa using hc
theorem Qu.ints {w w' : World} (h : Qu w w') {v : Value} {zs : List Int} (hi : Ints w v zs) : Ints w' v zs := hi.kept (h.below _)
theorem Qu.rows {w w' : World} (h : Qu w w') {v : Value} {zs : List (List Int)} (hi : Rows2 w v zs) : Rows2 w' v zs := hi.kept (h.below _)
theorem Qu.chg {w w' : World} (h : Qu w w') (lo hi : Nat) : Chg lo hi w w' := by obtain ⟨n, rfl⟩ := h; exact Chg.drewN (Chg.refl _ _ _) n
theorem Qu.owns {w w' : World} (h : Qu w w') {lo : Nat} {e : TypeId} {s : Nat} {v : Value} {n : Nat} {xs : List Value} (ho : w.ownsRow lo e s v n xs) : w'.ownsRow lo e s v n xs := by
  obtain ⟨n, rfl⟩ := h
  exact ho.kept (row := none) ⟨rfl, rfl, rfl, Nat.le_refl _, fun _ _ _ => rfl⟩ (by cases v.ownBlock <;> simp)
theorem Qu.ownRows {w w' : World} (h : Qu w w') {lo : Nat} {v : Value} {rs : List Value} {zss : List (List Int)} (ho : OwnRows w lo v rs zss) : OwnRows w' lo v rs zss :=
  ⟨h.owns ho.outer, fun k hk => h.owns (ho.row k hk), ho.apart⟩

/-- k, k + 1, .. -/
def run (k : Int) (n : Nat) : List Int := (List.range n).map fun (j : Nat) => k + (j : Int)
theorem run_length (k : Int) (n : Nat) : (run k n).length = n := by simp [run]
theorem run_getD (k : Int) (n j : Nat) (h : j < n) : (run k n).getD j 0 = k + j := by simp [run, List.getD_eq_getElem?_getD, h]

/-- how many numbers the rows hold -/
def bulk2 (zss : List (List Int)) : Nat := (zss.map List.length).sum
theorem bulk2_take (zss : List (List Int)) (k : Nat) (h : k < zss.length) : bulk2 (zss.take (k + 1)) = bulk2 (zss.take k) + (zss.getD k []).length := by
  unfold bulk2
  rw [List.take_succ_eq_append_getElem h, List.map_append, List.sum_append]
  simp [List.getD_eq_getElem?_getD, h]

theorem bulk2_le (zss : List (List Int)) (k : Nat) : bulk2 (zss.take k) ≤ bulk2 zss := by
  have h : bulk2 zss = bulk2 (zss.take k) + bulk2 (zss.drop k) := by
    conv => lhs; rw [← List.take_append_drop k zss]
    unfold bulk2; rw [List.map_append, List.sum_append]
  omega

/-- the rows, their numbers replaced by k, k + 1, .. throughout -/
def numRows (k : Int) : List (List Int) → List (List Int)
  | [] => []
  | r :: rs => run k r.length :: numRows (k + r.length) rs
theorem numRows_length (zss : List (List Int)) : ∀ k, (numRows k zss).length = zss.length := by
  induction zss with
  | nil => intro k; rfl
  | cons r rs ih => intro k; simp [numRows, ih]
theorem numRows_getD (zss : List (List Int)) : ∀ k i, i < zss.length → (numRows k zss).getD i [] = run (k + bulk2 (zss.take i)) (zss.getD i []).length := by
  induction zss with
  | nil => intro k i h; simp at h
  | cons r rs ih =>
    intro k i h
    cases i with
    | zero => simp [numRows, bulk2]
    | succ i =>
      have h' : i < rs.length := by simpa using h
      have := ih (k + r.length) i h'
      simp only [numRows, List.getD_cons_succ, List.take_succ_cons]
      rw [this]
      congr 1
      simp [bulk2]
      omega
theorem numRows_bulk (zss : List (List Int)) : ∀ k, bulk2 (numRows k zss) = bulk2 zss := by
  induction zss with
  | nil => intro k; rfl
  | cons r rs ih => intro k; have := ih (k + r.length); simp [numRows, bulk2, run_length] at this ⊢; omega
theorem numRows_bulk_take (zss : List (List Int)) : ∀ k i, bulk2 ((numRows k zss).take i) = bulk2 (zss.take i) := by
  induction zss with
  | nil => intro k i; rfl
  | cons r rs ih => intro k i; cases i with
    | zero => rfl
    | succ i => have := ih (k + r.length) i; simp [numRows, bulk2, run_length] at this ⊢; omega

/-- the index operation on such a slice -/
theorem idx_of {P : Program} {t e : TypeId} (ht : P.underlying t = some (.slice e)) (hs : ∀ w, (sizeOf e).run P w = .ok 1 w) {ao : Option Addr} {b o n c : Nat} (ha : 0 < n → ao = some ⟨b, o, none⟩) {k : Nat} (hk : k < n) (kd : IntKind) :
    ∀ w, (Instr.indexAt t (.slice ao n c) (.int kd (k : Int))).run P w = .ok (.pointer (some ⟨b, o + k, none⟩)) w := by
  intro w
  obtain rfl := ha (by omega)
  have he : P.elem t = e := by simp [Program.elem, ht]
  rw [run_indexAt_slice (P := P) w t _ n c kd k (by rw [he]; exact ht), if_pos (by omega), he, hs]
  simp [Result.andThen, Addr.add_lit]
/-- the index operation at a computed place -/
theorem idx_at {P : Program} {t e : TypeId} (ht : P.underlying t = some (.slice e)) (hs : ∀ w, (sizeOf e).run P w = .ok 1 w) {ao : Option Addr} {b o n c : Nat} (ha : 0 < n → ao = some ⟨b, o, none⟩) {k : Nat} (hk : k < n) (kd : IntKind) (x : Int) (hx : x = (k : Int)) :
    ∀ w, (Instr.indexAt t (.slice ao n c) (.int kd x)).run P w = .ok (.pointer (some ⟨b, o + k, none⟩)) w := by
  subst hx; exact idx_of ht hs ha hk kd


end Go.Proofs.Ytocdkeidjocmkaa
