/- All blocks stay but those of some rows; append of one element as a step of a region. Plain facts. -/
import Derived.Test.YtfdacodbiodiaaaGreatDoorNew
import Derived.Deep.RegionLaw
import Derived.Deep.AppendLies
namespace Go.Proofs.YtfdacodbiodiaaaGreatDoor
set_option linter.unusedVariables false
set_option linter.unusedSimpArgs false
open Go.ChangeShapes Go.WideShapes Go.ChangeAt Go.RowKit

theorem ownRows_drew {w : World} {lo : Nat} {v : Value} {rs : List Value} {zss : List (List Int)} (h : OwnRows w lo v rs zss) : OwnRows w.drew lo v rs zss := ⟨h.outer, h.row, h.apart⟩
/-- all blocks of w are as they were but those of some rows -/
def Fr (rs : List Value) (w w' : World) : Prop := w.heap.size ≤ w'.heap.size ∧ ∀ b, b < w.heap.size → (∀ j, j < rs.length → some b ≠ (rs.getD j undef).ownBlock) → w'.heap[b]? = w.heap[b]?
theorem Fr.refl (rs : List Value) (w : World) : Fr rs w w := ⟨Nat.le_refl _, fun _ _ _ => rfl⟩
theorem Fr.cell {rs : List Value} {w w' : World} (h : Fr rs w w') {b o : Nat} {u : Value} (hc : w.cell? ⟨b, o, none⟩ = some u) (hr : ∀ j, j < rs.length → some b ≠ (rs.getD j undef).ownBlock) : w'.cell? ⟨b, o, none⟩ = some u :=
  (World.cell?_of_block (h.2 b (block_lt_of_cell hc) hr)).trans hc
theorem Fr.frozen {rs : List Value} {w w' : World} (h : Fr rs w w') {b o : Nat} {u : Value} {f : Bool} (hc : w.cell? ⟨b, o, none⟩ = some u) (hf : w.frozen? ⟨b, o, none⟩ = f) (hr : ∀ j, j < rs.length → some b ≠ (rs.getD j undef).ownBlock) : w'.frozen? ⟨b, o, none⟩ = f :=
  (World.frozen?_of_block (h.2 b (block_lt_of_cell hc) hr)).trans hf
theorem Fr.below {rs : List Value} {w w' w2 : World} (h : Fr rs w w') (hb : Below w'.heap.size w' w2) : Fr rs w w2 :=
  ⟨Nat.le_trans h.1 hb.size, fun b hl hr => (hb.block b (Nat.lt_of_lt_of_le hl h.1)).trans (h.2 b hl hr)⟩
theorem Fr.grown {rs : List Value} {w w' w2 : World} (h : Fr rs w w') {j : Nat} (hj : j < rs.length) (hg : w'.grownBy w2 (rs.getD j undef).ownBlock) : Fr rs w w2 :=
  ⟨Nat.le_trans h.1 hg.size, fun b hl hr => (hg.block b (Nat.lt_of_lt_of_le hl h.1) (hr j hj)).trans (h.2 b hl hr)⟩

/-- append of one element at a step of a region, told of what it has grown -/
theorem step_appG {P : Program} {t e : TypeId} {z : Value} {bytes : Nat} (E : Elem P t e z bytes) {w : World} {ops : Array Oper} {o : Oper} {a : Act} {K : Act → World → Prop} {Q : Exit → Act → World → Prop} {F : Prop} (hgd : o.guard = none) (s x : Operand)
    (ho : o.op = .call { callee := .builtin .append, args := #[s, x], argTypes := #[t, t] })
    (lo : Nat) {v : Value} {n : Nat} {xs : List Value} (hs : a.eval s = v) (hown : w.ownsRow lo e 1 v n xs) (g : Nat) (u : Value) (hx : a.eval x = .slice (some ⟨g, 0, none⟩) 1 1) (hc : w.cell? ⟨g, 0, none⟩ = some u) (hu : u.oneCell' = true)
    (h63 : n + 1 ≤ maxLen) (hbytes : (n + 1) * bytes ≤ 140737488355328) (hlo : lo ≤ w.heap.size)
    (h : ∀ v' w', w'.ownsRow lo e 1 v' (n + 1) (xs ++ [u]) → w.grownBy w' v.ownBlock → K (a.put o.dst v') w') :
    if Region.wanted o (yielded ops a.tmps) = true then Oper.wp P o a w K Q else F := by
  obtain ⟨i, hi, hz, hsz, hby⟩ := info_parts E.info
  refine step_append_lies _ hgd s x t ho lo e i z 1 bytes E.slice hi hz hsz hby E.one (by decide) v n xs hs hown ⟨g, 0, none⟩ 1 1 [u] hx rfl ?_ ?_ (by decide) h63 hbytes hlo w.heap.size rfl ?_
  · intro j y hj
    match j, hj with
    | 0, hj => simp at hj; subst hj; simpa [Addr.add] using hc
  · intro y hy
    simp at hy
    subst hy
    exact hu
  · intro g cap w1 h1 h2 h3 h4
    exact h _ w1 h1 h2

end Go.Proofs.YtfdacodbiodiaaaGreatDoor
