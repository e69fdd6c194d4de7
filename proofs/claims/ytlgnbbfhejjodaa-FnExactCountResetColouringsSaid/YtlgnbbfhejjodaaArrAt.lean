/- What the closure of arrangements keeps: two boxes, the rows that grow, the list that grows and shrinks. Plain facts on worlds. -/
import Derived.Test.YtlgnbbfhejjodaaPaintLaw
import Derived.Test.YtlgnbbfhejjodaaNew
import Derived.Test.YtlgnbbfhejjodaaPush
import Derived.Deep.AppendLies
import Derived.Deep.RegionLaw
namespace Go.Proofs.Ytlgnbbfhejjodaa
set_option linter.unusedVariables false
set_option linter.unusedSimpArgs false
open Go.RowKit

theorem step_appS {P : Program} {t e : TypeId} {z : Value} {bytes : Nat} (E : Elem P t e z bytes) {w : World} {ops : Array Oper} {o : Oper} {a : Act} {K : Act → World → Prop} {Q : Exit → Act → World → Prop} {F : Prop} (hgd : o.guard = none) (s x : Operand)
    (ho : o.op = .call { callee := .builtin .append, args := #[s, x], argTypes := #[t, t] })
    (lo : Nat) {v : Value} {n : Nat} {xs : List Value} (hs : a.eval s = v) (hown : w.ownsRow lo e 1 v n xs) (g : Nat) (u : Value) (hx : a.eval x = .slice (some ⟨g, 0, none⟩) 1 1) (hc : w.cell? ⟨g, 0, none⟩ = some u) (hu : u.oneCell' = true)
    (h63 : n + 1 ≤ maxLen) (hbytes : (n + 1) * bytes ≤ 140737488355328) (hlo : lo ≤ w.heap.size)
    (h : ∀ v' w', w'.ownsRow lo e 1 v' (n + 1) (xs ++ [u]) → w.grownBy w' v.ownBlock → SameOrNew v v' w.heap.size → K (a.put o.dst v') w') :
    if Region.wanted o (yielded ops a.tmps) = true then Oper.wp P o a w K Q else F := by
  obtain ⟨i, hi, hz, hsz, hby⟩ := info_parts E.info
  refine step_append_lies _ hgd s x t ho lo e i z 1 bytes E.slice hi hz hsz hby E.one (by decide) v n xs hs hown ⟨g, 0, none⟩ 1 1 [u] hx rfl ?_ ?_ (by decide) h63 hbytes hlo w.heap.size rfl ?_
  · intro j y hj
    match j, hj with
    | 0, hj => simp at hj; subst hj; simpa [Addr.add] using hc
  · intro y hy
    simp at hy
    subst hy
    exact hu
  · intro g cap w1 h1 h2 h3 h4
    refine h _ w1 h1 h2 ?_
    rcases h3 with h3 | h3
    · exact .inl h3.symm
    · exact .inr ⟨g, rfl, by omega⟩

/-- all stays but two boxes and two blocks -/
structure Fr2 (w w' : World) (bo bn : Nat) (go gn : Option Nat) : Prop where
  os : w'.os = w.os
  tape : w'.tape = w.tape
  output : w'.output = w.output
  size : w.heap.size ≤ w'.heap.size
  block : ∀ k, k < w.heap.size → k ≠ bo → k ≠ bn → some k ≠ go → some k ≠ gn → w'.heap[k]? = w.heap[k]?
/-- the block is the old one or new -/
def SN (g g' : Option Nat) (B : Nat) : Prop := g' = g ∨ ∃ k, g' = some k ∧ B ≤ k
theorem SN.refl (g : Option Nat) (B : Nat) : SN g g B := .inl rfl
theorem SN.trans {g g1 g2 : Option Nat} {B C : Nat} (h : SN g g1 B) (h2 : SN g1 g2 C) (hb : B ≤ C) : SN g g2 B := by
  rcases h2 with rfl | ⟨k, rfl, hk⟩
  · exact h
  · exact .inr ⟨k, rfl, by omega⟩
theorem SN.ne {g g' : Option Nat} {B k : Nat} (h : SN g g' B) (hk : k < B) (hn : some k ≠ g) : some k ≠ g' := by
  rcases h with rfl | ⟨j, rfl, hj⟩
  · exact hn
  · simp; omega
theorem SN.mono {g g' : Option Nat} {B C : Nat} (h : SN g g' C) (hb : B ≤ C) : SN g g' B := by
  rcases h with rfl | ⟨k, rfl, hk⟩
  · exact .inl rfl
  · exact .inr ⟨k, rfl, by omega⟩
theorem SN.of {v v' : Value} {B : Nat} (h : SameOrNew v v' B) : SN v.ownBlock v'.ownBlock B := h

theorem Fr2.of_below {w w' : World} {bo bn : Nat} {go gn : Option Nat} (h : Below w.heap.size w w') : Fr2 w w' bo bn go gn := ⟨h.os, h.tape, h.output, h.size, fun k hk _ _ _ _ => h.block k hk⟩
theorem Fr2.of_grown {w w' : World} {bo bn : Nat} {go gn row : Option Nat} (h : w.grownBy w' row) (hr : row = go ∨ row = gn ∨ row = some bo ∨ row = some bn) : Fr2 w w' bo bn go gn :=
  ⟨h.os, h.tape, h.output, h.size, fun k hk h1 h2 h3 h4 => h.block k hk (by
    rcases hr with rfl | rfl | rfl | rfl
    · exact h3
    · exact h4
    · simp; exact h1
    · simp; exact h2)⟩
theorem Fr2.trans {w w1 w2 : World} {bo bn : Nat} {go gn go' gn' : Option Nat} (h : Fr2 w w1 bo bn go gn) (h2 : Fr2 w1 w2 bo bn go' gn') (ho : SN go go' w.heap.size) (hn : SN gn gn' w.heap.size) : Fr2 w w2 bo bn go gn :=
  ⟨h2.os.trans h.os, h2.tape.trans h.tape, h2.output.trans h.output, Nat.le_trans h.size h2.size, fun k hk k1 k2 k3 k4 => (h2.block k (Nat.lt_of_lt_of_le hk h.size) k1 k2 (ho.ne hk k3) (hn.ne hk k4)).trans (h.block k hk k1 k2 k3 k4)⟩
theorem Fr2.cell {w w' : World} {bo bn : Nat} {go gn : Option Nat} (h : Fr2 w w' bo bn go gn) {b o : Nat} {u : Value} (c : w.cell? ⟨b, o, none⟩ = some u) (k1 : b ≠ bo) (k2 : b ≠ bn) (k3 : some b ≠ go) (k4 : some b ≠ gn) : w'.cell? ⟨b, o, none⟩ = some u :=
  (World.cell?_of_block (h.block b (block_lt_of_cell c) k1 k2 k3 k4)).trans c
/-- nothing that is older than lo changes but the boxes -/
theorem Fr2.below {w w' : World} {bo bn lo : Nat} {go gn : Option Nat} (h : Fr2 w w' bo bn go gn) (hl : lo ≤ w.heap.size) (h1 : lo ≤ bo) (h2 : lo ≤ bn) (h3 : ∀ g, go = some g → lo ≤ g) (h4 : ∀ g, gn = some g → lo ≤ g) : Below lo w w' :=
  ⟨h.os, h.tape, h.output, h.size, fun k hk => h.block k (by omega) (by omega) (by omega) (fun e => by have := h3 k e.symm; omega) (fun e => by have := h4 k e.symm; omega)⟩

theorem grown_set {w : World} {g o : Nat} {v : Value} : w.grownBy (w.setCell ⟨g, o, none⟩ v) (some g) :=
  have h := Below.heap_setCell w ⟨g, o, none⟩ v
  ⟨rfl, rfl, rfl, by simp, fun k hk hne => h k (by simpa using hne)⟩

theorem OwnRows.keptBy {w w' : World} {lo : Nat} {v : Value} {rs : List Value} {zss : List (List Int)} {row : Option Nat} (h : OwnRows w lo v rs zss) (hg : w.grownBy w' row) (ho : v.ownBlock = none ∨ v.ownBlock ≠ row) (hr : ∀ k, k < zss.length → (rs.getD k undef).ownBlock = none ∨ (rs.getD k undef).ownBlock ≠ row) : OwnRows w' lo v rs zss :=
  ⟨h.outer.kept hg ho, fun k hk => (h.row k hk).kept hg (hr k hk), h.apart⟩

theorem own_take {w : World} {lo : Nat} {e : TypeId} {g n c k : Nat} {xs : List Value} (h : w.ownsRow lo e 1 (.slice (some ⟨g, 0, none⟩) n c) n xs) (hk : k ≤ n) : w.ownsRow lo e 1 (.slice (some ⟨g, 0, none⟩) k c) k (xs.take k) := by
  have hl := h.1
  refine ⟨by rw [List.length_take]; omega, ?_⟩
  rcases h.2 with ⟨h0, _⟩ | ⟨g', cap, cur, hv, h1, h2, h3, h4, h5, h6⟩
  · cases h0
  · injection hv with e1 _ e3
    injection e1 with e1
    injection e1 with e1
    subst e1; subst e3
    refine .inr ⟨_, _, cur, rfl, h1, h2, by omega, h4, h5, ?_⟩
    rw [← h6, List.take_take]
    congr 1
    omega

structure ArrAt (w : World) (lo bo bn : Nat) (ov : Value) (rs : List Value) (zss : List (List Int)) (nv : Value) (N : List Int) : Prop where
  co : w.cell? ⟨bo, 0, none⟩ = some ov
  fo : w.frozen? ⟨bo, 0, none⟩ = false
  cn : w.cell? ⟨bn, 0, none⟩ = some nv
  fn : w.frozen? ⟨bn, 0, none⟩ = false
  rows : OwnRows w lo ov rs zss
  now : w.ownsRow lo 2 1 nv N.length (N.map (Value.int .i64))
  ap : ∀ i, i < zss.length → (rs.getD i undef).ownBlock = none ∨ (rs.getD i undef).ownBlock ≠ nv.ownBlock
  bo1 : ov.ownBlock ≠ some bo
  bo2 : ov.ownBlock ≠ some bn
  bn1 : nv.ownBlock ≠ some bo
  bn2 : nv.ownBlock ≠ some bn
  br : ∀ i, i < zss.length → (rs.getD i undef).ownBlock ≠ some bo ∧ (rs.getD i undef).ownBlock ≠ some bn
  ne : bo ≠ bn
  low : lo ≤ w.heap.size

section
variable {w w' : World} {lo bo bn : Nat} {ov : Value} {rs : List Value} {zss : List (List Int)} {nv : Value} {N : List Int}

theorem ArrAt.below (h : ArrAt w lo bo bn ov rs zss nv N) (hb : Below w.heap.size w w') : ArrAt w' lo bo bn ov rs zss nv N := by
  have l1 := block_lt_of_cell h.co
  have l2 := block_lt_of_cell h.cn
  exact ⟨below_cell hb h.co, (hb.frozen (p := ⟨bo, 0, none⟩) l1).trans h.fo, below_cell hb h.cn, (hb.frozen (p := ⟨bn, 0, none⟩) l2).trans h.fn, h.rows.below hb, own_below h.now hb, h.ap, h.bo1, h.bo2, h.bn1, h.bn2, h.br, h.ne, Nat.le_trans h.low hb.size⟩

theorem gcell {row : Option Nat} (hg : w.grownBy w' row) {b o : Nat} (hne : row ≠ some b) {u : Value} (c : w.cell? ⟨b, o, none⟩ = some u) : w'.cell? ⟨b, o, none⟩ = some u :=
  (World.cell?_of_block (hg.block b (block_lt_of_cell c) fun e => hne e.symm)).trans c
theorem gfrozen {row : Option Nat} (hg : w.grownBy w' row) {b o : Nat} (hne : row ≠ some b) {u : Value} (c : w.cell? ⟨b, o, none⟩ = some u) {f : Bool} (g : w.frozen? ⟨b, o, none⟩ = f) : w'.frozen? ⟨b, o, none⟩ = f :=
  (World.frozen?_of_block (hg.block b (block_lt_of_cell c) fun e => hne e.symm)).trans g
theorem ne_new {v v' : Value} {B b : Nat} (h : SameOrNew v v' B) (hn : v.ownBlock ≠ some b) (hb : b < B) : v'.ownBlock ≠ some b := fun e => by
  rcases h with h | ⟨k, h, hk⟩
  · exact hn (h.symm.trans e)
  · rw [h] at e
    cases e
    omega

/-- .. a number appended to the list, and the list's box turned -/
theorem ArrAt.push (h : ArrAt w lo bo bn ov rs zss nv N) {v6 : Value} {w6 : World} {z : Int} (ho : w6.ownsRow lo 2 1 v6 (N.length + 1) (N.map (Value.int .i64) ++ [.int .i64 z])) (hg : w.grownBy w6 nv.ownBlock) (hs : SameOrNew nv v6 w.heap.size) :
    ArrAt (w6.setCell ⟨bn, 0, none⟩ v6) lo bo bn ov rs zss v6 (N ++ [z]) ∧ Fr2 w (w6.setCell ⟨bn, 0, none⟩ v6) bo bn ov.ownBlock nv.ownBlock := by
  have c1 := gcell hg h.bn1 h.co
  have f1 := gfrozen hg h.bn1 h.co h.fo
  have c2 := gcell hg h.bn2 h.cn
  have f2 := gfrozen hg h.bn2 h.cn h.fn
  have r6 := h.rows.keptBy hg (own_ne h.rows.outer h.now (by decide)) h.ap
  have ap6 : ∀ i, i < zss.length → (rs.getD i undef).ownBlock = none ∨ (rs.getD i undef).ownBlock ≠ v6.ownBlock := fun i hi => (push_other hg hs (h.rows.row i hi) (h.ap i hi)).2
  have G := grown_set (w := w6) (g := bn) (o := 0) (v := v6)
  have l2 := block_lt_of_cell c2
  have n2 := ne_new hs h.bn2 (block_lt_of_cell h.cn)
  refine ⟨⟨?_, ?_, ?_, ?_, r6.keptBy G (.inr h.bo2) fun k hk => .inr (h.br k hk).2, ?_, ap6, h.bo1, h.bo2, ne_new hs h.bn1 (block_lt_of_cell h.co), n2, h.br, h.ne, ?_⟩, ?_⟩
  · exact (World.cell?_of_block (G.block bo (block_lt_of_cell c1) (by simp; exact h.ne))).trans c1
  · exact (World.frozen?_of_block (G.block bo (block_lt_of_cell c1) (by simp; exact h.ne))).trans f1
  · go_simp
  · go_simp
  · rw [List.length_append, List.length_singleton, List.map_append]
    exact ho.kept G (.inr n2)
  · have := hg.size; have := h.low; simp; omega
  · have a1 : Fr2 w w6 bo bn ov.ownBlock nv.ownBlock := Fr2.of_grown hg (.inr (.inl rfl))
    have a2 : Fr2 w6 (w6.setCell ⟨bn, 0, none⟩ v6) bo bn ov.ownBlock nv.ownBlock := Fr2.of_grown G (.inr (.inr (.inr rfl)))
    exact a1.trans a2 (SN.refl _ _) (SN.refl _ _)

/-- .. the last number is taken from the list -/
theorem ArrAt.pop {g n c : Nat} {z : Int} (h : ArrAt w lo bo bn ov rs zss (.slice (some ⟨g, 0, none⟩) n c) (N ++ [z])) (hn : n = N.length + 1) :
    ArrAt (w.setCell ⟨bn, 0, none⟩ (.slice (some ⟨g, 0, none⟩) N.length c)) lo bo bn ov rs zss (.slice (some ⟨g, 0, none⟩) N.length c) N ∧ Fr2 w (w.setCell ⟨bn, 0, none⟩ (.slice (some ⟨g, 0, none⟩) N.length c)) bo bn ov.ownBlock (some g) := by
  have G := grown_set (w := w) (g := bn) (o := 0) (v := .slice (some ⟨g, 0, none⟩) N.length c)
  have l2 := block_lt_of_cell h.cn
  have c1 := h.co
  have f1 := h.fo
  have c2 := h.cn
  have f2 := h.fn
  have hnow := h.now
  rw [List.length_append, List.length_singleton, ← hn, List.map_append] at hnow
  have ht := own_take (k := N.length) hnow (by omega)
  rw [List.take_left' (by simp)] at ht
  refine ⟨⟨?_, ?_, ?_, ?_, h.rows.keptBy G (.inr h.bo2) fun k hk => .inr (h.br k hk).2, ?_, h.ap, h.bo1, h.bo2, h.bn1, h.bn2, h.br, h.ne, ?_⟩, ?_⟩
  · exact (World.cell?_of_block (G.block bo (block_lt_of_cell c1) (by simp; exact h.ne))).trans c1
  · exact (World.frozen?_of_block (G.block bo (block_lt_of_cell c1) (by simp; exact h.ne))).trans f1
  · go_simp
  · go_simp
  · exact ht.kept G (.inr h.bn2)
  · have := h.low; simp; omega
  · exact Fr2.of_grown G (.inr (.inr (.inr rfl)))

/-- .. a copy of the list appended to the rows, and the rows' box turned -/
theorem ArrAt.give (h : ArrAt w lo bo bn ov rs zss nv N) {v1 v6 : Value} {w6 : World} (hr : w.ownsRow lo 2 1 v1 N.length (N.map (Value.int .i64))) (hne : ∀ i, i < zss.length → (rs.getD i undef).ownBlock = none ∨ (rs.getD i undef).ownBlock ≠ v1.ownBlock) (hnn : v1.ownBlock = none ∨ v1.ownBlock ≠ nv.ownBlock)
    (ho : w6.ownsRow lo 32 1 v6 (zss.length + 1) (rs ++ [v1])) (hg : w.grownBy w6 ov.ownBlock) (hs : SameOrNew ov v6 w.heap.size) (hv1 : v1.ownBlock ≠ some bo) (hv2 : v1.ownBlock ≠ some bn) :
    ArrAt (w6.setCell ⟨bo, 0, none⟩ v6) lo bo bn v6 (rs ++ [v1]) (zss ++ [N]) nv N ∧ Fr2 w (w6.setCell ⟨bo, 0, none⟩ v6) bo bn ov.ownBlock nv.ownBlock := by
  have c1 := gcell hg h.bo1 h.co
  have f1 := gfrozen hg h.bo1 h.co h.fo
  have c2 := gcell hg h.bo2 h.cn
  have f2 := gfrozen hg h.bo2 h.cn h.fn
  have r6 := h.rows.append hg ho hr hne
  have n6 := h.now.kept hg (own_ne h.now h.rows.outer (by decide))
  have hlen := h.rows.len
  have G := grown_set (w := w6) (g := bo) (o := 0) (v := v6)
  have l1 := block_lt_of_cell c1
  have n1 := ne_new hs h.bo1 (block_lt_of_cell h.co)
  have hbr : ∀ i, i < (zss ++ [N]).length → ((rs ++ [v1]).getD i undef).ownBlock ≠ some bo ∧ ((rs ++ [v1]).getD i undef).ownBlock ≠ some bn := fun i hi => by
    rw [List.length_append, List.length_singleton] at hi
    by_cases hin : i < zss.length
    · rw [show (rs ++ [v1]).getD i undef = rs.getD i undef by simp [List.getD_eq_getElem?_getD, List.getElem?_append, hlen, hin]]
      exact h.br i hin
    · obtain rfl : i = zss.length := by omega
      rw [show (rs ++ [v1]).getD zss.length undef = v1 by simp [List.getD_eq_getElem?_getD, hlen]]
      exact ⟨hv1, hv2⟩
  refine ⟨⟨?_, ?_, ?_, ?_, r6.keptBy G (.inr n1) fun k hk => .inr (hbr k hk).1, n6.kept G (.inr h.bn1), fun i hi => ?_, n1, ne_new hs h.bo2 (block_lt_of_cell h.cn), h.bn1, h.bn2, hbr, h.ne, ?_⟩, ?_⟩
  · go_simp
  · go_simp
  · exact (World.cell?_of_block (G.block bn (block_lt_of_cell c2) (by simp; exact fun e => h.ne e.symm))).trans c2
  · exact (World.frozen?_of_block (G.block bn (block_lt_of_cell c2) (by simp; exact fun e => h.ne e.symm))).trans f2
  · rw [List.length_append, List.length_singleton] at hi
    by_cases hin : i < zss.length
    · rw [show (rs ++ [v1]).getD i undef = rs.getD i undef by simp [List.getD_eq_getElem?_getD, List.getElem?_append, hlen, hin]]
      exact h.ap i hin
    · obtain rfl : i = zss.length := by omega
      rw [show (rs ++ [v1]).getD zss.length undef = v1 by simp [List.getD_eq_getElem?_getD, hlen]]
      exact hnn
  · have := hg.size; have := h.low; simp; omega
  · have a1 : Fr2 w w6 bo bn ov.ownBlock nv.ownBlock := Fr2.of_grown hg (.inl rfl)
    have a2 : Fr2 w6 (w6.setCell ⟨bo, 0, none⟩ v6) bo bn ov.ownBlock nv.ownBlock := Fr2.of_grown G (.inr (.inr (.inl rfl)))
    exact a1.trans a2 (SN.refl _ _) (SN.refl _ _)
end

/-- from the world W on: the rows and the list are these -/
structure ArrTo (W w : World) (lo bo bn : Nat) (go gn : Option Nat) (zss : List (List Int)) (N : List Int) (ov nv : Value) : Prop where
  at_ : ∃ rs, ArrAt w lo bo bn ov rs zss nv N
  fr : Fr2 W w bo bn go gn
  so : SN go ov.ownBlock W.heap.size
  sn : SN gn nv.ownBlock W.heap.size
theorem ArrTo.refl {w : World} {lo bo bn : Nat} {ov nv : Value} {rs : List Value} {zss : List (List Int)} {N : List Int} (h : ArrAt w lo bo bn ov rs zss nv N) : ArrTo w w lo bo bn ov.ownBlock nv.ownBlock zss N ov nv :=
  ⟨⟨rs, h⟩, Fr2.of_below (Below.refl _ _), SN.refl _ _, SN.refl _ _⟩
theorem ArrTo.trans {W w w' : World} {lo bo bn : Nat} {go gn : Option Nat} {zss zss' : List (List Int)} {N N' : List Int} {ov nv ov' nv' : Value} (h : ArrTo W w lo bo bn go gn zss N ov nv) (h2 : ArrTo w w' lo bo bn ov.ownBlock nv.ownBlock zss' N' ov' nv') : ArrTo W w' lo bo bn go gn zss' N' ov' nv' :=
  ⟨h2.at_, h.fr.trans h2.fr h.so h.sn, h.so.trans h2.so h.fr.size, h.sn.trans h2.sn h.fr.size⟩
theorem ArrTo.below {W w w' : World} {lo bo bn : Nat} {go gn : Option Nat} {zss : List (List Int)} {N : List Int} {ov nv : Value} (h : ArrTo W w lo bo bn go gn zss N ov nv) (hb : Below w.heap.size w w') : ArrTo W w' lo bo bn go gn zss N ov nv := by
  obtain ⟨rs, ha⟩ := h.at_
  exact ⟨⟨rs, ha.below hb⟩, h.fr.trans (Fr2.of_below (go := ov.ownBlock) (gn := nv.ownBlock) hb) h.so h.sn, h.so, h.sn⟩

theorem arrTo_mono (n : Nat) (l : List Int) {j k : Nat} (h : j ≤ k) : (arrTo n l j).length ≤ (arrTo n l k).length := by
  induction k with
  | zero => obtain rfl : j = 0 := by omega
            exact Nat.le_refl _
  | succ k ih =>
    rcases Nat.lt_or_ge j (k + 1) with h2 | h2
    · rw [arrTo_succ, List.length_append]
      have := ih (by omega)
      omega
    · obtain rfl : j = k + 1 := by omega
      exact Nat.le_refl _

theorem apart_newer {w0 w : World} {lo lo2 : Nat} {e e2 : TypeId} {n n2 : Nat} {v r : Value} {xs ys : List Value} (h : w0.ownsRow lo e 1 v n xs) (hr : w.ownsRow lo2 e2 1 r n2 ys) (hl : w0.heap.size ≤ lo2) : r.ownBlock = none ∨ r.ownBlock ≠ v.ownBlock := by
  cases hv : r.ownBlock with
  | none => exact .inl rfl
  | some q =>
    refine .inr fun hh => ?_
    have a1 := own_block h hh.symm
    have a2 := own_block hr hv
    omega

end Go.Proofs.Ytlgnbbfhejjodaa
