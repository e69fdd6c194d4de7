/- Regions that draw their order and hold tuples: the steps of a walk over all orders. -/
import Derived.Test.YtocdkeidjocmkaaDirRun
import Derived.OrdersHeld
import Derived.Deep.RegionHeld3
namespace Go.Proofs.Ytocdkeidjocmkaa
set_option linter.unusedVariables false
set_option linter.unusedSimpArgs false
open Go.ChangeShapes Go.WideShapes Go.ChangeAt Go.RowKit

/-- block b is o -/
def Has (w : World) (b : Nat) (o : Obj) : Prop := w.heap[b]? = some o
theorem Has.next {w w' : World} {b : Nat} {o : Obj} (h : Has w b o) (hb : Below w.heap.size w w') : Has w' b o := (hb.block b (Array.getElem?_eq_some_iff.1 h).1).trans h
theorem Has.put {w w' : World} {b mb n : Nat} {P : Program} {k : TypeId} {F : Lit → Option Value} {cs : Array Value} {e : TypeId} {x : Nat × Nat} (h : Has w b (.cells cs e x)) (hm : MapAt P k w mb n F) (hg : w.grownBy w' (some mb)) : Has w' b (.cells cs e x) :=
  (hg.block b (Array.getElem?_eq_some_iff.1 h).1 (fun e => hm.ne_cells h (by injection e))).trans h

theorem Has.cell {w : World} {b : Nat} {u : Value} {e : TypeId} {x : Nat × Nat} (h : Has w b (.cells #[u] e x)) : w.cell? ⟨b, 0, none⟩ = some u := by
  rw [cell_of_row w b 0 _ _ _ h]
  rfl
theorem ne_block {g n c t : Nat} (h : g < t) : (Value.slice (some ⟨g, 0, none⟩) n c).ownBlock ≠ some t := by
  simp [Value.ownBlock]
  omega
theorem ne_block_new {v v' : Value} {B t : Nat} (h : SameOrNew v v' B) (hn : v.ownBlock ≠ some t) (ht : t < B) : v'.ownBlock ≠ some t := by
  rcases h with h | ⟨k, h, hk⟩
  · rw [h]; exact hn
  · rw [h]
    intro e
    injection e with e
    omega
theorem grown_refl (w : World) (row : Option Nat) : w.grownBy w row := ⟨rfl, rfl, rfl, Nat.le_refl _, fun _ _ _ => rfl⟩
theorem grown_of_below {a b : World} {row : Option Nat} (h : Below a.heap.size a b) : a.grownBy b row := grown_below (grown_refl a row) h
theorem MapAt.lookSome {P : Program} {k t e : TypeId} {w : World} {b n : Nat} {f : Lit → Option Value} {z key u : Value} {kl : Lit} (h : MapAt P k w b n f) (K : Maps.Keyed P k) (ht : P.underlying t = some (.map k e)) (hz : (zeroValue e).run P w = .ok z w) (hkey : keyOf P k key = some kl) (hf : f kl = some u) :
    (Instr.lookup t (.map (some b)) key false).run P w = .ok u w := by
  have := h.look K ht hz hkey
  rw [hf] at this
  exact this

section
variable {P : Program} {ops : Array Oper} {Q : Exit → Act → World → Prop} {md : Region.Mode} {S : World → Prop} {fuel : Nat} {listed : Array Bool} {a : Act} {w : World} {i j k : Nat}
theorem ready1 (hr : Region.ready md ops listed = [i]) (h : wpOp P ops Q i (fun a' w' => S w' ∧ wpAnyH P md ops Q S fuel (listed.setIfInBounds i true) a' w') a w) : wpAnyH P md ops Q S (fuel + 1) listed a w :=
  wpAnyH_all hr (by simp) fun x hx => by simp at hx; subst hx; exact h
theorem ready2 (hr : Region.ready md ops listed = [i, j]) (h : wpOp P ops Q i (fun a' w' => S w' ∧ wpAnyH P md ops Q S fuel (listed.setIfInBounds i true) a' w') a w) (h2 : wpOp P ops Q j (fun a' w' => S w' ∧ wpAnyH P md ops Q S fuel (listed.setIfInBounds j true) a' w') a w) : wpAnyH P md ops Q S (fuel + 1) listed a w :=
  wpAnyH_all hr (by simp) fun x hx => by
    simp at hx
    rcases hx with rfl | rfl
    · exact h
    · exact h2
theorem ready3 (hr : Region.ready md ops listed = [i, j, k]) (h : wpOp P ops Q i (fun a' w' => S w' ∧ wpAnyH P md ops Q S fuel (listed.setIfInBounds i true) a' w') a w) (h2 : wpOp P ops Q j (fun a' w' => S w' ∧ wpAnyH P md ops Q S fuel (listed.setIfInBounds j true) a' w') a w) (h3 : wpOp P ops Q k (fun a' w' => S w' ∧ wpAnyH P md ops Q S fuel (listed.setIfInBounds k true) a' w') a w) : wpAnyH P md ops Q S (fuel + 1) listed a w :=
  wpAnyH_all hr (by simp) fun x hx => by
    simp at hx
    rcases hx with rfl | rfl | rfl
    · exact h
    · exact h2
    · exact h3
variable {o : Oper} {d : Option Tmp} {K : Act → World → Prop}
theorem takeD {v : Value} (hi : ops[i]? = some o) (hd : o.dst = d) (hs : Region.noSelect ops = true) (hf : Region.free md ops listed i = true) (hr : (Region.ready md ops listed).contains i = true)
    (hQ : ∀ c a w, Q (.panic c) (a.put o.dst v) w → Q (.panic c) a w) (hy : YieldsIf P ops S o v a) (hS : S w)
    (h : wpAnyH P md ops Q S fuel (listed.setIfInBounds i true) (a.put d v) w) : wpAnyH P md ops Q S (fuel + 1) listed a w := by
  subst hd
  exact wpAnyH_take hi hs hf hr hQ hy hS h
theorem wpOp_stepS (hi : ops[i]? = some o) (h : ∀ K' : Act → World → Prop, Hid (∀ a w, K a w → K' a w) → if Region.wanted o (yielded ops a.tmps) = true then Oper.wp P o a w K' Q else K' (a.put o.dst undef) w) : wpOp P ops Q i K a w := wpOp_step hi h
theorem wpOp_value (hi : ops[i]? = some o) (hg : o.guard = none) (hd : o.dst = d) {v : Value} {w' : World} (hrun : (execOp a.eval o).run P w = .ok (.value v) w') (h : K (a.put d v) w') : wpOp P ops Q i K a w := by
  subst hd
  refine wpOp_step hi fun K' hK => ?_
  rw [if_pos (by simp [Region.wanted, hg])]
  unfold Oper.wp
  rw [hrun]
  exact hK _ _ h
theorem wpOp_skipU (hi : ops[i]? = some o) (hg : o.guard = none) (hd : o.dst = d) {w' : World} (hrun : (execOp a.eval o).run P w = .ok .skip w') (h : K (a.put d undef) w') : wpOp P ops Q i K a w := by
  subst hd
  refine wpOp_step hi fun K' hK => ?_
  rw [if_pos (by simp [Region.wanted, hg])]
  unfold Oper.wp
  rw [hrun]
  exact hK _ _ h
theorem yields_move (hg : o.guard = none) (x : Operand) (ho : o.op = .move x) {v : Value} (hv : a.eval x = v) : YieldsIf P ops S o v a := .inl ⟨by simp [Region.wanted, hg], fun w _ => by subst hv; exact BigFrame.run_move x ho w⟩
theorem yields_assign (hg : o.guard = none) (x : Operand) (ho : o.op = .assign x) {v : Value} (hv : a.eval x = v) : YieldsIf P ops S o v a := .inl ⟨by simp [Region.wanted, hg], fun w _ => by subst hv; exact BigFrame.run_assign x ho w⟩
theorem step_appD {t e : TypeId} {z : Value} {bytes : Nat} (E : Elem P t e z bytes) {F : Prop} (hgd : o.guard = none) (hd : o.dst = d) (s x : Operand)
    (ho : o.op = .call { callee := .builtin .append, args := #[s, x], argTypes := #[t, t] })
    (lo : Nat) {v : Value} {n : Nat} {xs : List Value} (hs : a.eval s = v) (hown : w.ownsRow lo e 1 v n xs) (g : Nat) (u : Value) (hx : a.eval x = .slice (some ⟨g, 0, none⟩) 1 1) (hc : w.cell? ⟨g, 0, none⟩ = some u) (hu : u.oneCell' = true)
    (h63 : n + 1 ≤ maxLen) (hbytes : (n + 1) * bytes ≤ 140737488355328) (hlo : lo ≤ w.heap.size)
    (h : ∀ v' w', w'.ownsRow lo e 1 v' (n + 1) (xs ++ [u]) → w.grownBy w' v.ownBlock → SameOrNew v v' w.heap.size → K (a.put d v') w') :
    if Region.wanted o (yielded ops a.tmps) = true then Oper.wp P o a w K Q else F := by
  subst hd
  exact step_appSM E hgd s x ho lo hs hown g u hx hc hu h63 hbytes hlo h
/-- a map made -/
theorem wpOp_map {t kt : TypeId} (hi : ops[i]? = some o) (hg : o.guard = none) (hd : o.dst = d) (ho : o.op = .makeMap t none) (h : ∀ w', Below w.heap.size w w' → MapAt P kt w' w.heap.size 0 (fun _ => none) → K (a.put d (.map (some w.heap.size))) w') : wpOp P ops Q i K a w :=
  wpOp_value hi hg hd (by
    have := run_makeMap (P := P) t w
    simp only [execOp, ho, Option.map_none, Sem.run_bind, Sem.run_pure, Result.andThen_ok, this]) (h _ (below_alloc (Below.refl _ _) _) (MapAt.made P kt w))
/-- m[k] = v, in a literal or by itself -/
theorem wpOp_put {t kt e : TypeId} (hi : ops[i]? = some o) (hg : o.guard = none) (hd : o.dst = d) (m x v : Operand) (ho : o.op = .insert t m x v ∨ o.op = .mapUpdate t m x v) {b n : Nat} {F : Lit → Option Value} (hm : MapAt P kt w b n F) (Kd : Maps.Keyed P kt) (ht : P.underlying t = some (.map kt e)) (hn : n < maxLen)
    {key val : Value} {kl : Lit} (h1 : a.eval m = .map (some b)) (h2 : a.eval x = key) (h3 : a.eval v = val) (hkey : keyOf P kt key = some kl) (h : ∀ w', MapAt P kt w' b (n + 1) (putF F kl val) → w.grownBy w' (some b) → K (a.put d undef) w') : wpOp P ops Q i K a w := by
  obtain ⟨w', hrun, r1, r2⟩ := hm.put Kd ht hn hkey (val := val)
  refine wpOp_skipU hi hg hd (w' := w') ?_ (h w' r1 r2)
  rcases ho with ho | ho
  · simp only [execOp, ho, h1, h2, h3, Sem.run_bind, Sem.run_pure, Result.andThen_ok, hrun]
  · simp only [execOp, ho, h1, h2, h3, Sem.run_bind, Sem.run_pure, Result.andThen_ok, hrun]
/-- a look-up -/
theorem wpOp_look {t : TypeId} (hi : ops[i]? = some o) (hg : o.guard = none) (hd : o.dst = d) (m x : Operand) (ho : o.op = .lookup t m x false) {mv key v : Value} (h1 : a.eval m = mv) (h2 : a.eval x = key) (hrun : (Instr.lookup t mv key false).run P w = .ok v w) (h : K (a.put d v) w) : wpOp P ops Q i K a w :=
  wpOp_value hi hg hd (by simp only [execOp, ho, h1, h2, Sem.run_bind, Sem.run_pure, Result.andThen_ok, hrun]) h
end
section
variable {ops : Array Oper} {Q : Exit → Act → World → Prop} {a : Act} {w : World} {i : Nat} {o : Oper} {d : Option Tmp} {K : Act → World → Prop}
/-- a list of one tuple -/
theorem wpOp_litT (hi : ops[i]? = some o) (hg : o.guard = none) (hd : o.dst = d) (x : Operand) (ho : o.op = .buildSlice 104 1 #[(0, x)]) (y : List Nat) (hx : a.eval x = tupV y) (h : ∀ w', Below w.heap.size w w' → Has w' w.heap.size (.cells (tupL y).toArray 103) → K (a.put d (.slice (some ⟨w.heap.size, 0, none⟩) 1 1)) w') : wpOp Try.prog ops Q i K a w :=
  wpOp_value hi hg hd (by
    have := lit_tup w y
    simp only [execOp, ho, hx, List.map_toArray, List.map_cons, List.map_nil, Sem.run_bind, Sem.run_pure, Result.andThen_ok, this]) (h _ (below_alloc (Below.refl _ _) _) (heap_alloc_new w _))
theorem lit_none (w : World) : (Instr.buildSlice 55 0 #[]).run Try.prog w = .ok (.slice (some ⟨w.heap.size, 0, none⟩) 0 0) (w.alloc (.cells #[] 2)) := by kernel_rfl
theorem lit_one (w : World) (x : Int) : (Instr.buildSlice 55 1 #[(0, .int .i64 x)]).run Try.prog w = .ok (.slice (some ⟨w.heap.size, 0, none⟩) 1 1) (w.alloc (.cells #[.int .i64 x] 2)) := by kernel_rfl
/-- a list of no number; of one -/
theorem wpOp_lit0 (hi : ops[i]? = some o) (hg : o.guard = none) (hd : o.dst = d) (ho : o.op = .buildSlice 55 0 #[]) (h : ∀ w', Below w.heap.size w w' → Has w' w.heap.size (.cells #[] 2) → K (a.put d (.slice (some ⟨w.heap.size, 0, none⟩) 0 0)) w') : wpOp Try.prog ops Q i K a w :=
  wpOp_value hi hg hd (by
    have := lit_none w
    simp only [execOp, ho, List.map_toArray, List.map_nil, Sem.run_bind, Sem.run_pure, Result.andThen_ok, this]) (h _ (below_alloc (Below.refl _ _) _) (heap_alloc_new w _))
theorem wpOp_lit1 (hi : ops[i]? = some o) (hg : o.guard = none) (hd : o.dst = d) (x : Operand) (ho : o.op = .buildSlice 55 1 #[(0, x)]) (z : Int) (hx : a.eval x = .int .i64 z) (h : ∀ w', Below w.heap.size w w' → Has w' w.heap.size (.cells #[.int .i64 z] 2) → K (a.put d (.slice (some ⟨w.heap.size, 0, none⟩) 1 1)) w') : wpOp Try.prog ops Q i K a w :=
  wpOp_value hi hg hd (by
    have := lit_one w z
    simp only [execOp, ho, hx, List.map_toArray, List.map_cons, List.map_nil, Sem.run_bind, Sem.run_pure, Result.andThen_ok, this]) (h _ (below_alloc (Below.refl _ _) _) (heap_alloc_new w _))
end
end Go.Proofs.Ytocdkeidjocmkaa
