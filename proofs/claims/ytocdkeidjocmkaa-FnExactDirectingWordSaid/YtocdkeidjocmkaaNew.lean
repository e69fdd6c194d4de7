/- Results that the call makes, with a code beside them; elements for append. -/
import Derived.Test.YtocdkeidjocmkaaPush
import Derived.Test.YtocdkeidjocmkaaHelp2
namespace Go.Proofs.Ytocdkeidjocmkaa
set_option linter.unusedVariables false
set_option linter.unusedSimpArgs false
open Go.ChangeShapes Go.WideShapes Go.ChangeAt Go.RowKit

theorem elem_int : Elem Try.prog 55 2 (.int .i64 0) 8 := ⟨Try.underlying55, by kernel_rfl, rfl⟩
theorem elem_ints : Elem Try.prog 22 55 (.slice none 0 0) 24 := ⟨Try.underlying22, by kernel_rfl, rfl⟩

/-- it returns a new slice of numbers and a code -/
def NewInts2 (zs : List Int) (code : Int) (w : World) (e : Ending) (w' : World) : Prop :=
  ∃ v, e = .returned (.tuple #[v, .int .i64 code]) ∧ w'.ownsRow w.heap.size 2 1 v zs.length (zs.map (Value.int .i64)) ∧ Below w.heap.size w w'
/-- .. rows and a code -/
def NewRows2 (xss : List (List Int)) (code : Int) (w : World) (e : Ending) (w' : World) : Prop :=
  ∃ v rs, e = .returned (.tuple #[v, .int .i64 code]) ∧ OwnRows w' w.heap.size v rs xss ∧ Below w.heap.size w w'
/-- .. a struct of a number and rows, and a code -/
def NewAuto2 (st : Int) (xss : List (List Int)) (code : Int) (w : World) (e : Ending) (w' : World) : Prop :=
  ∃ v rs, e = .returned (.tuple #[.agg #[.int .i64 st, v], .int .i64 code]) ∧ OwnRows w' w.heap.size v rs xss ∧ Below w.heap.size w w'

theorem own_empty (w : World) (lo : Nat) (h : lo ≤ w.heap.size) (e : TypeId) : (w.alloc (.cells #[] e)).ownsRow lo e 1 (.slice (some ⟨w.heap.size, 0, none⟩) 0 0) 0 [] := World.ownsRow_made w #[] 0 h (by unfold maxLen; omega) (by simp)
theorem own_drew {w : World} {lo : Nat} {e : TypeId} {s : Nat} {v : Value} {n : Nat} {xs : List Value} (h : w.ownsRow lo e s v n xs) : w.drew.ownsRow lo e s v n xs := h
theorem ownRows_nil (w : World) (lo : Nat) : OwnRows w lo (.slice none 0 0) [] [] := ⟨World.ownsRow_nil _ _ _ _, fun k hk => by simp at hk, fun i j _ hj => by simp at hj⟩
theorem ownRows_empty (w : World) (lo : Nat) (h : lo ≤ w.heap.size) : OwnRows (w.alloc (.cells #[] 55)) lo (.slice (some ⟨w.heap.size, 0, none⟩) 0 0) [] [] := ⟨own_empty w lo h _, fun k hk => by simp at hk, fun i j _ hj => by simp at hj⟩

/-- behind an append to the outer slice: what was owned stays so, and the new row is in -/
theorem OwnRows.pushed {w w' : World} {lo : Nat} {v v' r : Value} {rs : List Value} {zss : List (List Int)} {ys : List Int} (h : OwnRows w lo v rs zss) (hg : w.grownBy w' v.ownBlock) (ho : w'.ownsRow lo 55 1 v' (zss.length + 1) (rs ++ [r]))
    {lo2 : Nat} (hr : w.ownsRow lo2 2 1 r ys.length (ys.map (Value.int .i64))) (hl : lo ≤ lo2) (hne : ∀ i, i < zss.length → (rs.getD i undef).ownBlock = none ∨ (rs.getD i undef).ownBlock ≠ r.ownBlock) : OwnRows w' lo v' (rs ++ [r]) (zss ++ [ys]) :=
  h.append hg ho (own_lo hr hl) hne
/-- rows in old blocks lie apart from one that is new since w0 -/
theorem OwnRows.apart_new {w0 w : World} {lo : Nat} {v r : Value} {rs : List Value} {zss : List (List Int)} {e : TypeId} {n : Nat} {xs : List Value} (h : OwnRows w0 lo v rs zss) (hr : w.ownsRow w0.heap.size e 1 r n xs) : ∀ i, i < zss.length → (rs.getD i undef).ownBlock = none ∨ (rs.getD i undef).ownBlock ≠ r.ownBlock := fun i hi => by
  cases hv : (rs.getD i undef).ownBlock with
  | none => exact .inl rfl
  | some q =>
    refine .inr fun hh => ?_
    have a1 := own_block (h.row i hi) hv
    have a2 := own_block hr hh.symm
    omega

/-- two slices that the call owns: the second's blocks are new since w0 -/
theorem apart_of_new {w0 w : World} {lo : Nat} {e : TypeId} {s : Nat} {v : Value} {n : Nat} {xs : List Value} {e2 : TypeId} {s2 : Nat} {r : Value} {m : Nat} {ys : List Value} (h : w0.ownsRow lo e s v n xs) (hr : w.ownsRow w0.heap.size e2 s2 r m ys) : v.ownBlock = none ∨ v.ownBlock ≠ r.ownBlock := by
  cases hv : v.ownBlock with
  | none => exact .inl rfl
  | some q =>
    refine .inr fun hh => ?_
    have a1 := own_block h hv
    have a2 := own_block hr hh.symm
    omega

theorem grown_cell {w w' : World} {lo : Nat} {e : TypeId} {s : Nat} {v : Value} {n : Nat} {xs : List Value} (hg : w.grownBy w' v.ownBlock) (ho : w.ownsRow lo e s v n xs) {b o : Nat} (hb : b < lo) {u : Value} (c : w.cell? ⟨b, o, none⟩ = some u) : w'.cell? ⟨b, o, none⟩ = some u :=
  (World.cell?_of_block (hg.block b (block_lt_of_cell c) fun h => by have := own_block ho h.symm; omega)).trans c
theorem grown_frozen {w w' : World} {lo : Nat} {e : TypeId} {s : Nat} {v : Value} {n : Nat} {xs : List Value} (hg : w.grownBy w' v.ownBlock) (ho : w.ownsRow lo e s v n xs) {b o : Nat} (hb : b < lo) {u : Value} (c : w.cell? ⟨b, o, none⟩ = some u) {f : Bool} (g : w.frozen? ⟨b, o, none⟩ = f) : w'.frozen? ⟨b, o, none⟩ = f :=
  (World.frozen?_of_block (hg.block b (block_lt_of_cell c) fun h => by have := own_block ho h.symm; omega)).trans g

/-- owned from a lower base, if it was so before -/
theorem own_low {w w' : World} {lo lo2 : Nat} {e : TypeId} {s : Nat} {v : Value} {n : Nat} {xs : List Value} (h : w.ownsRow lo e s v n xs) (h2 : w'.ownsRow lo2 e s v n xs) : w'.ownsRow lo e s v n xs := by
  refine ⟨h2.1, ?_⟩
  rcases h2.2 with hn | ⟨g, cap, cur, hv, h1, rest⟩
  · exact .inl hn
  · refine .inr ⟨g, cap, cur, hv, ?_, rest⟩
    exact (own_block h (by rw [hv]; rfl)).1
theorem OwnRows.set_below2 {w : World} {lo lo2 : Nat} {v : Value} {rs : List Value} {zss : List (List Int)} (h : OwnRows w lo v rs zss) (h2 : OwnRows w lo2 v rs zss) {b : Nat} (hb : b < lo2) (o : Nat) (u : Value) : OwnRows (w.setCell ⟨b, o, none⟩ u) lo v rs zss := by
  have h3 := h2.set_below hb o u
  refine ⟨own_low h.outer h3.outer, fun k hk => own_low (h.row k hk) (h3.row k hk), h.apart⟩

/-- block ob is a struct of a number and rows that the call owns -/
def OutAt (w : World) (ob lo : Nat) (st : Int) (xss : List (List Int)) : Prop :=
  ∃ v rs, w.cell? ⟨ob, 0, none⟩ = some (.int .i64 st) ∧ w.cell? ⟨ob, 1, none⟩ = some v ∧ w.frozen? ⟨ob, 1, none⟩ = false ∧ OwnRows w lo v rs xss
theorem OutAt.below {w w' : World} {ob lo : Nat} {st : Int} {xss : List (List Int)} (h : OutAt w ob lo st xss) (hb : Below w.heap.size w w') : OutAt w' ob lo st xss := by
  obtain ⟨v, rs, c0, c1, f1, ho⟩ := h
  exact ⟨v, rs, below_cell hb c0, below_cell hb c1, (hb.frozen (p := ⟨ob, 1, none⟩) (block_lt_of_cell c1)).trans f1, ho.below hb⟩
theorem OutAt.pushed {w w' : World} {ob lo : Nat} {st : Int} {v v' r : Value} {rs : List Value} {zss : List (List Int)} {ys : List Int} (h : OwnRows w lo v rs zss) (c0 : w.cell? ⟨ob, 0, none⟩ = some (.int .i64 st)) (c1 : w.cell? ⟨ob, 1, none⟩ = some v) (f1 : w.frozen? ⟨ob, 1, none⟩ = false) (hob : ob < lo)
    (hg : w.grownBy w' v.ownBlock) (ho : w'.ownsRow lo 55 1 v' (zss.length + 1) (rs ++ [r])) {lo2 : Nat} (hr : w.ownsRow lo2 2 1 r ys.length (ys.map (Value.int .i64))) (hl : lo ≤ lo2)
    (hne : ∀ i, i < zss.length → (rs.getD i undef).ownBlock = none ∨ (rs.getD i undef).ownBlock ≠ r.ownBlock) : OutAt (w'.setCell ⟨ob, 1, none⟩ v') ob lo st (zss ++ [ys]) := by
  have hlt := block_lt_of_cell c1
  have hne2 : some ob ≠ v.ownBlock := fun e => by have := own_block h.outer e.symm; omega
  have k0 : w'.cell? ⟨ob, 0, none⟩ = some (.int .i64 st) := (World.cell?_of_block (hg.block ob hlt hne2)).trans c0
  have k1 : w'.cell? ⟨ob, 1, none⟩ = some v := (World.cell?_of_block (hg.block ob hlt hne2)).trans c1
  have g1 : w'.frozen? ⟨ob, 1, none⟩ = false := (World.frozen?_of_block (hg.block ob hlt hne2)).trans f1
  refine ⟨v', rs ++ [r], ?_, ?_, ?_, (h.pushed hg ho hr hl hne).set_below hob _ _⟩
  · go_simp
  · go_simp
  · go_simp

theorem eqInts_yes (v1 v2 : Value) (xs : List Int) (w : World) (h1 : Ints w v1 xs) (h2 : Ints w v2 xs) : Calls Try.prog 33 #[v1, v2] w (RetB (.bool true) w) :=
  (eqInts_any v1 v2 xs xs w h1 h2).mono fun _ _ ⟨he, hq⟩ => ⟨by rw [he, decide_eq_true rfl], hq.below _⟩
theorem eqRows_yes (v1 v2 : Value) (xs : List (List Int)) (w : World) (h1 : Rows2 w v1 xs) (h2 : Rows2 w v2 xs) : Calls Try.prog 28 #[v1, v2] w (RetB (.bool true) w) :=
  (eqRows_any v1 v2 xs xs w h1 h2).mono fun _ _ ⟨he, hq⟩ => ⟨by rw [he, decide_eq_true rfl], hq.below _⟩
theorem heldInts_ret (v : Value) (zs : List Int) (n : Nat) (k0 : Int) (w : World) (h1 : Ints w v zs) (h0 : 0 ≤ k0) (hk0 : k0 + n ≤ 4611686018427387904) (hz : zs = run k0 n) : Calls Try.prog 35 #[v, .int .i64 k0] w (RetB (.int .i64 (k0 + n)) w) := by
  have hl : zs.length = n := by rw [hz, run_length]
  refine (heldInts_any v zs k0 w h1 h0 (by omega) (by rw [hl]; exact hz)).mono fun _ w' ⟨he, hw⟩ => ⟨by rw [he, hl], ?_⟩
  rw [← hw]
  exact Below.refl _ _
theorem heldRows_ret (v : Value) (zss yss : List (List Int)) (k0 : Int) (w : World) (h1 : Rows2 w v zss) (h0 : 0 ≤ k0) (hk0 : k0 + bulk2 yss ≤ 4611686018427387904) (hz : zss = numRows k0 yss) : Calls Try.prog 30 #[v, .int .i64 k0] w (RetB (.int .i64 (k0 + bulk2 yss)) w) := by
  refine (heldRows_any v zss yss k0 w h1 h0 hk0 hz).mono fun _ w' ⟨he, hw⟩ => ⟨he, ?_⟩
  rw [← hw]
  exact Below.refl _ _

/-- numbers that the call owns, all in blocks lo .. hi - 1 -/
def IntsIn (lo hi : Nat) (v : Value) : Prop := ∀ g, v.ownBlock = some g → lo ≤ g ∧ g < hi
theorem own_within {w : World} {lo : Nat} {e : TypeId} {s : Nat} {v : Value} {n : Nat} {xs : List Value} (h : w.ownsRow lo e s v n xs) : IntsIn lo w.heap.size v := fun g hg => own_block h hg
theorem own_chg' {w w' : World} {lo : Nat} {e : TypeId} {s : Nat} {v : Value} {n : Nat} {xs : List Value} {lo1 hi1 lo2 hi2 : Nat} (h : w.ownsRow lo e s v n xs) (hin : IntsIn lo2 hi2 v) (hb : Chg lo1 hi1 w w') (ho : hi2 ≤ lo1 ∨ hi1 ≤ lo2) : w'.ownsRow lo e s v n xs :=
  own_chg h hb fun g hg => by have := hin g hg; omega
/-- the numbers are marked from k0 on -/
def Marked1 (v : Value) (lo hi n : Nat) (k0 : Int) (w : World) (e : Ending) (w' : World) : Prop :=
  e = .returned (.int .i64 (k0 + n)) ∧ w'.ownsRow lo 2 1 v (run k0 n).length ((run k0 n).map (Value.int .i64)) ∧ Chg lo hi w w'
theorem markInts_chg (v : Value) (lo hi : Nat) (xs : List Int) (k0 : Int) (w : World) (hown : w.ownsRow lo 2 1 v xs.length (xs.map (Value.int .i64))) (hin : IntsIn lo hi v) (h0 : 0 ≤ k0) (hk0 : k0 + xs.length ≤ 4611686018427387904) :
    Calls Try.prog 34 #[v, .int .i64 k0] w (Marked1 v lo hi xs.length k0 w) :=
  (markInts_any v lo xs.length xs k0 w hown h0 hk0).mono fun _ _ ⟨he, ho, hg⟩ => ⟨he, by rw [run_length]; exact ho, Chg.of_grown hg hin⟩
theorem markRows_chg (v : Value) (lo hi : Nat) (rs : List Value) (xss : List (List Int)) (k0 : Int) (w : World) (hown : OwnRows w lo v rs xss) (hin : RowsIn lo hi v rs xss.length) (h0 : 0 ≤ k0) (hk0 : k0 + bulk2 xss ≤ 4611686018427387904) :
    Calls Try.prog 29 #[v, .int .i64 k0] w (Marked2 v lo hi rs xss k0 w) := (markRows_any v lo hi rs xss k0 w hown hin h0 hk0).mono fun _ _ h => h
theorem run_bulk (k0 : Int) (n : Nat) : (run k0 n).length = n := run_length k0 n

/-- the same from a lower base on -/
theorem own_lo2 {w : World} {lo lo2 hi2 : Nat} {e : TypeId} {s : Nat} {v : Value} {n : Nat} {xs : List Value} (h : w.ownsRow lo e s v n xs) (hin : IntsIn lo2 hi2 v) : w.ownsRow lo2 e s v n xs := by
  refine ⟨h.1, ?_⟩
  rcases h.2 with hn | ⟨g, cap, cur, hv, _, rest⟩
  · exact .inl hn
  · exact .inr ⟨g, cap, cur, hv, (hin g (by rw [hv]; rfl)).1, rest⟩
theorem OwnRows.low2 {w : World} {lo lo2 hi2 : Nat} {v : Value} {rs : List Value} {zss : List (List Int)} (h : OwnRows w lo v rs zss) (hin : RowsIn lo2 hi2 v rs zss.length) : OwnRows w lo2 v rs zss :=
  ⟨own_lo2 h.outer hin.outer, fun k hk => own_lo2 (h.row k hk) (hin.row k hk), h.apart⟩
def NewAuto2From (lo : Nat) (st : Int) (xss : List (List Int)) (code : Int) (w : World) (e : Ending) (w' : World) : Prop :=
  ∃ v rs, e = .returned (.tuple #[.agg #[.int .i64 st, v], .int .i64 code]) ∧ OwnRows w' lo v rs xss ∧ Below w.heap.size w w'
theorem NewAuto2.low {lo : Nat} {st : Int} {xss : List (List Int)} {code : Int} {w : World} {e : Ending} {w' : World} (h : NewAuto2 st xss code w e w') (hl : lo ≤ w.heap.size) : NewAuto2From lo st xss code w e w' := by
  obtain ⟨v, rs, he, ho, hb⟩ := h
  exact ⟨v, rs, he, ho.mono hl, hb⟩
def NewInts2From (lo : Nat) (zs : List Int) (code : Int) (w : World) (e : Ending) (w' : World) : Prop :=
  ∃ v, e = .returned (.tuple #[v, .int .i64 code]) ∧ w'.ownsRow lo 2 1 v zs.length (zs.map (Value.int .i64)) ∧ Below w.heap.size w w'
theorem NewInts2.low {lo : Nat} {zs : List Int} {code : Int} {w : World} {e : Ending} {w' : World} (h : NewInts2 zs code w e w') (hl : lo ≤ w.heap.size) : NewInts2From lo zs code w e w' := by
  obtain ⟨v, he, ho, hb⟩ := h
  exact ⟨v, he, own_lo ho hl, hb⟩

theorem own_grown {lo : Nat} {e : TypeId} {s : Nat} {v : Value} {n : Nat} {xs : List Value} {w w' : World} {row : Option Nat} (h : w.ownsRow lo e s v n xs) {lo2 : Nat} {e2 : TypeId} {s2 : Nat} {v2 : Value} {n2 : Nat} {xs2 : List Value} (h2 : w.ownsRow lo2 e2 s2 v2 n2 xs2) (hg : w.grownBy w' row) (hr : row = v2.ownBlock) (he : e ≠ e2) : w'.ownsRow lo e s v n xs :=
  h.kept hg (by rw [hr]; exact own_ne h h2 he)

theorem own_cell_kept {w w' : World} {lo lo2 tb n m : Nat} {e e2 : TypeId} {v : Value} {xs ys : List Value} {u : Value} {c : Nat} (hg : w.grownBy w' v.ownBlock) (hv : w.ownsRow lo e 1 v n xs) (hs : w.ownsRow lo2 e2 1 (.slice (some ⟨tb, 0, none⟩) m c) m ys) (k : Nat) (he : e2 ≠ e) (_ : True)
    (h : w.cell? ⟨tb, k, none⟩ = some u) : w'.cell? ⟨tb, k, none⟩ = some u :=
  (World.cell?_of_block (hg.block tb (block_lt_of_cell h) (by have := own_ne hs hv he; simpa [Value.ownBlock] using this))).trans h
theorem own_frozen_kept {w w' : World} {lo lo2 tb n m : Nat} {e e2 : TypeId} {v : Value} {xs ys : List Value} {u : Value} {c : Nat} (hg : w.grownBy w' v.ownBlock) (hv : w.ownsRow lo e 1 v n xs) (hs : w.ownsRow lo2 e2 1 (.slice (some ⟨tb, 0, none⟩) m c) m ys) (k : Nat) (he : e2 ≠ e) (_ : True)
    (h : w.cell? ⟨tb, k, none⟩ = some u) {b : Bool} (hf : w.frozen? ⟨tb, k, none⟩ = b) : w'.frozen? ⟨tb, k, none⟩ = b :=
  (World.frozen?_of_block (hg.block tb (block_lt_of_cell h) (by have := own_ne hs hv he; simpa [Value.ownBlock] using this))).trans hf

theorem own_int_at {w : World} {lo g cap : Nat} {e : TypeId} {zs : List Int} (h : w.ownsRow lo e 1 (.slice (some ⟨g, 0, none⟩) zs.length cap) zs.length (zs.map (Value.int .i64))) {j : Nat} (hj : j < zs.length) : w.cell? ⟨g, j, none⟩ = some (.int .i64 (zs.getD j 0)) := by
  rw [h.cellAt j (by omega)]
  simp [List.getD_eq_getElem?_getD, hj]

end Go.Proofs.Ytocdkeidjocmkaa
