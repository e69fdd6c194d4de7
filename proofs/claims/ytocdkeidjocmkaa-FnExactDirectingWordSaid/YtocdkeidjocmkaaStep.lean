/- One element appended to a slice that the call owns, at a step of a region that draws its order; the cells that stay. Laws over any program. -/
import Derived.Test.YtocdkeidjocmkaaPush
import Derived.Deep.AppendLies
import Derived.Deep.RegionHeld3
namespace Go.Proofs.Ytocdkeidjocmkaa
set_option linter.unusedVariables false
set_option linter.unusedSimpArgs false
open Go.RowKit

theorem step_push {P : Program} {t e : TypeId} {z : Value} {bytes : Nat} (E : Elem P t e z bytes) {w : World} {ops : Array Oper} {o : Oper} {a : Act} {K : Act → World → Prop} {Q : Exit → Act → World → Prop} {F : Prop} (hgd : o.guard = none) (s x : Operand)
    (ho : o.op = .call { callee := .builtin .append, args := #[s, x], argTypes := #[t, t] })
    (lo : Nat) {v : Value} {n : Nat} {xs : List Value} (hs : a.eval s = v) (hown : w.ownsRow lo e 1 v n xs) (u : Value) (hx : a.eval x = .slice (some ⟨w.heap.size, 0, none⟩) 1 1) (hu : u.oneCell' = true)
    (h63 : n + 1 ≤ maxLen) (hbytes : (n + 1) * bytes ≤ 140737488355328) (hlo : lo ≤ w.heap.size)
    (h : ∀ v' w', w'.ownsRow lo e 1 v' (n + 1) (xs ++ [u]) → w.grownBy w' v.ownBlock → SameOrNew v v' w.heap.size → K (a.put o.dst v') w') :
    if Region.wanted o (yielded ops a.tmps) = true then Oper.wp P o a ((w.alloc (.cells #[u] e)).drew) K Q else F := by
  obtain ⟨i, hi, hz, hsz, hby⟩ := info_parts E.info
  refine step_append_lies _ hgd s x t ho lo e i z 1 bytes E.slice hi hz hsz hby E.one (by decide) v n xs hs ((hown.alloc _ : (w.alloc (.cells #[u] e)).ownsRow lo e 1 v n xs)) ⟨w.heap.size, 0, none⟩ 1 1 [u] hx rfl ?_ ?_ (by decide) h63 hbytes (by simp; omega) (w.heap.size + 1) (by simp) ?_
  · intro j y hj
    match j, hj with
    | 0, hj => simp at hj; subst hj; simp [Addr.add]
  · intro y hy
    simp at hy
    subst hy
    exact hu
  · intro g cap w1 h1 h2 h3 h4
    refine h _ w1 h1 ⟨h2.os, h2.tape, h2.output, by have := h2.size; simp at this; omega, fun k hk hr => (h2.block k (by simp; omega) hr).trans (Below.heap_alloc w _ k hk)⟩ ?_
    rcases h3 with h3 | h3
    · exact .inl h3.symm
    · exact .inr ⟨g, rfl, by omega⟩

/-- the same, wherever the new element's cell lies; told of all that is older than wo -/
theorem step_app {P : Program} {t e : TypeId} {z : Value} {bytes : Nat} (E : Elem P t e z bytes) {wo w : World} {ops : Array Oper} {o : Oper} {a : Act} {K : Act → World → Prop} {Q : Exit → Act → World → Prop} {F : Prop} (hgd : o.guard = none) (s x : Operand)
    (ho : o.op = .call { callee := .builtin .append, args := #[s, x], argTypes := #[t, t] })
    (hb : Below wo.heap.size wo w) {v : Value} {n : Nat} {xs : List Value} (hs : a.eval s = v) (hown : w.ownsRow wo.heap.size e 1 v n xs) (g : Nat) (u : Value) (hx : a.eval x = .slice (some ⟨g, 0, none⟩) 1 1) (hc : w.cell? ⟨g, 0, none⟩ = some u) (hu : u.oneCell' = true)
    (h63 : n + 1 ≤ maxLen) (hbytes : (n + 1) * bytes ≤ 140737488355328)
    (h : ∀ v' w', w'.ownsRow wo.heap.size e 1 v' (n + 1) (xs ++ [u]) → Below wo.heap.size wo w' → K (a.put o.dst v') w') :
    if Region.wanted o (yielded ops a.tmps) = true then Oper.wp P o a w K Q else F := by
  obtain ⟨i, hi, hz, hsz, hby⟩ := info_parts E.info
  refine step_append_lies _ hgd s x t ho wo.heap.size e i z 1 bytes E.slice hi hz hsz hby E.one (by decide) v n xs hs hown ⟨g, 0, none⟩ 1 1 [u] hx rfl ?_ ?_ (by decide) h63 hbytes hb.size w.heap.size rfl ?_
  · intro j y hj
    match j, hj with
    | 0, hj => simp at hj; subst hj; simpa [Addr.add] using hc
  · intro y hy
    simp at hy
    subst hy
    exact hu
  · intro g cap w1 h1 h2 h3 h4
    exact h _ w1 h1 (Below.grown hb h2 hb.size fun g hg => (own_block hown hg).1)

/-- all that lay in wo lies in the worlds of a region -/
theorem held_from {wo wr : World} (hb : Below wo.heap.size wo wr) : Below wo.heap.size wo wr.drew ∧ ∀ b o, b < wo.heap.size → wr.drew.cell? ⟨b, o, none⟩ = wo.cell? ⟨b, o, none⟩ := ⟨hb.drew, fun b o h => hb.drew.cell (p := ⟨b, o, none⟩) h⟩
theorem held_with {wo wr : World} (hb : Below wo.heap.size wo wr) : Below wo.heap.size wo wr ∧ ∀ b o, b < wo.heap.size → wr.cell? ⟨b, o, none⟩ = wo.cell? ⟨b, o, none⟩ := ⟨hb, fun b o h => hb.cell (p := ⟨b, o, none⟩) h⟩
theorem held_grown {wo wr w' : World} {lo : Nat} {e : TypeId} {s : Nat} {v : Value} {n : Nat} {xs : List Value} (hb : Below wo.heap.size wo wr) (ho : wr.ownsRow lo e s v n xs) (hl : wo.heap.size ≤ lo) (hg : wr.grownBy w' v.ownBlock) : Below wo.heap.size wo w' ∧ ∀ b o, b < wo.heap.size → w'.cell? ⟨b, o, none⟩ = wo.cell? ⟨b, o, none⟩ :=
  held_with (Below.grown hb hg hb.size fun g hg => Nat.le_trans hl (own_block ho hg).1)
theorem held_nx {w0 w1 w2 : World} (hb : Below w1.heap.size w1 w2) (h : Below w0.heap.size w0 w1 ∧ ∀ b o, b < w0.heap.size → w1.cell? ⟨b, o, none⟩ = w0.cell? ⟨b, o, none⟩) :
    Below w0.heap.size w0 w2 ∧ ∀ b o, b < w0.heap.size → w2.cell? ⟨b, o, none⟩ = w0.cell? ⟨b, o, none⟩ := held_next h hb
/-- .. behind a new block; behind a store into a block that is new since w0 -/
theorem held_alloc {w0 w1 : World} {o : Obj} (h : Below w0.heap.size w0 w1 ∧ ∀ b o, b < w0.heap.size → w1.cell? ⟨b, o, none⟩ = w0.cell? ⟨b, o, none⟩) :
    Below w0.heap.size w0 (w1.alloc o) ∧ ∀ b q, b < w0.heap.size → (w1.alloc o).cell? ⟨b, q, none⟩ = w0.cell? ⟨b, q, none⟩ := held_with (below_alloc h.1 o)
theorem held_set {w0 w1 : World} {g q : Nat} {u : Value} (h : Below w0.heap.size w0 w1 ∧ ∀ b o, b < w0.heap.size → w1.cell? ⟨b, o, none⟩ = w0.cell? ⟨b, o, none⟩) (hg : w0.heap.size ≤ g) :
    Below w0.heap.size w0 (w1.setCell ⟨g, q, none⟩ u) ∧ ∀ b o, b < w0.heap.size → (w1.setCell ⟨g, q, none⟩ u).cell? ⟨b, o, none⟩ = w0.cell? ⟨b, o, none⟩ := held_with (below_set h.1 hg q u)

end Go.Proofs.Ytocdkeidjocmkaa
