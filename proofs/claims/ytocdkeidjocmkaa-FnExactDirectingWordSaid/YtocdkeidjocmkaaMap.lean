/- A map that the call makes, told as a plain function from keys to values. Laws over any program. -/
import Derived.Maps.Own
import Derived.Maps.OwnOps
import Derived.Maps.OwnSet
import Derived.Test.YtocdkeidjocmkaaOwn
namespace Go.Proofs.Ytocdkeidjocmkaa
set_option linter.unusedVariables false
set_option linter.unusedSimpArgs false
open Go.RowKit

/-- an element read as itself -/
def heldElem (v : Value) : Option (DataW Value × List MemPlace) := some (.held v, [])

/-- block b of w is a map of at most n entries which holds f -/
def MapAt (P : Program) (k : TypeId) (w : World) (b n : Nat) (f : Lit → Option Value) : Prop :=
  ∃ D, w.ownsMap P k heldElem b n D ∧ ∀ l, (f l = none → Maps.has D l = false) ∧ ∀ v, f l = some v → Maps.has D l = true ∧ ∀ z, D.atKey l z = .held v

/-- the function with one key turned -/
def putF (f : Lit → Option Value) (k : Lit) (v : Value) (l : Lit) : Option Value := if l.sameKey k = true then some v else f l
theorem sameKey_self {k : Lit} (hk : WideAt.IsKeyLit k) : k.sameKey k = true := by cases k <;> simp_all [Lit.sameKey, WideAt.IsKeyLit]
theorem putF_same {f : Lit → Option Value} {k : Lit} (hk : WideAt.IsKeyLit k) (v : Value) : putF f k v k = some v := by unfold putF; rw [if_pos (sameKey_self hk)]
theorem putF_other {f : Lit → Option Value} {k l : Lit} (h : l ≠ k) (v : Value) : putF f k v l = f l := by unfold putF; rw [Maps.sameKey_ne h]; rfl
theorem putF_int {f : Lit → Option Value} (q : IntKind) (a b : Int) (v : Value) : putF f (.int q a) v (.int q b) = if b = a then some v else f (.int q b) := by
  by_cases h : b = a
  · subst h; rw [putF_same (k := .int q b) trivial, if_pos rfl]
  · rw [putF_other (by intro e; injection e with _ e; exact h e), if_neg h]

section
variable {P : Program} {k : TypeId} {w w' : World} {b n : Nat} {f : Lit → Option Value}

theorem MapAt.made (P : Program) (k : TypeId) (w : World) : MapAt P k (w.alloc (.map #[] 0)) w.heap.size 0 fun _ => none :=
  ⟨_, World.ownsMap_made w P k heldElem, fun l => ⟨fun _ => rfl, fun v h => by cases h⟩⟩
theorem MapAt.lt (h : MapAt P k w b n f) : b < w.heap.size := by obtain ⟨D, h, _⟩ := h; exact h.lt
theorem MapAt.mono (h : MapAt P k w b n f) {m : Nat} (hm : n ≤ m) : MapAt P k w b m f := by obtain ⟨D, h, h2⟩ := h; exact ⟨D, h.mono hm, h2⟩
theorem MapAt.kept {row : Option Nat} (h : MapAt P k w b n f) (hg : w.grownBy w' row) (hne : some b ≠ row) : MapAt P k w' b n f := by obtain ⟨D, h, h2⟩ := h; exact ⟨D, h.kept hg hne, h2⟩
theorem MapAt.below (h : MapAt P k w b n f) (hb : Below w.heap.size w w') : MapAt P k w' b n f :=
  h.kept (row := none) ⟨hb.os, hb.tape, hb.output, hb.size, fun j hj _ => hb.block j hj⟩ (by simp)
theorem MapAt.alloc (h : MapAt P k w b n f) (o : Obj) : MapAt P k (w.alloc o) b n f := by obtain ⟨D, h, h2⟩ := h; exact ⟨D, h.alloc o, h2⟩
theorem MapAt.setCell (h : MapAt P k w b n f) {g o : Nat} (hg : b ≠ g) (u : Value) : MapAt P k (w.setCell ⟨g, o, none⟩ u) b n f := by obtain ⟨D, h, h2⟩ := h; exact ⟨D, h.setCell (a := ⟨g, o, none⟩) hg u, h2⟩
theorem MapAt.congr {g : Lit → Option Value} (h : MapAt P k w b n f) (hg : ∀ l, g l = f l) : MapAt P k w b n g := by
  obtain rfl : g = f := funext hg
  exact h
/-- no block of cells is the map's -/
theorem MapAt.ne_cells (h : MapAt P k w b n f) {g : Nat} {cs : Array Value} {e : TypeId} {x : Nat × Nat} (hg : w.heap[g]? = some (.cells cs e x)) : g ≠ b := by
  obtain ⟨D, ⟨es, clock, hb, _⟩, _⟩ := h
  intro e
  rw [e, hb] at hg
  cases hg
theorem MapAt.ne_own (h : MapAt P k w b n f) {lo : Nat} {e : TypeId} {s : Nat} {v : Value} {m : Nat} {xs : List Value} (ho : w.ownsRow lo e s v m xs) : some b ≠ v.ownBlock := by
  intro hh
  obtain ⟨cur, hc⟩ := own_type ho hh.symm
  exact h.ne_cells hc rfl

theorem MapAt.look {t e : TypeId} {z : Value} {key : Value} {kl : Lit} (h : MapAt P k w b n f) (K : Maps.Keyed P k) (ht : P.underlying t = some (.map k e)) (hz : (zeroValue e).run P w = .ok z w) (hkey : keyOf P k key = some kl) :
    (Instr.lookup t (.map (some b)) key false).run P w = .ok ((f kl).getD z) w := by
  obtain ⟨D, ho, hf⟩ := h
  obtain ⟨v, ps, hr, hv⟩ := ho.lookup K ht hz (zd := .held z) (zp := []) rfl hkey
  rw [hr]
  have e : DataW.held v = D.atKey kl (.held z) := by simp [heldElem] at hv; exact hv.1
  cases hk : f kl with
  | none =>
    rw [Maps.atKey_of_not_has ((hf kl).1 hk)] at e
    injection e with e
    rw [e]; rfl
  | some u =>
    rw [((hf kl).2 u hk).2] at e
    injection e with e
    rw [e]; rfl
theorem MapAt.lookOk {t e : TypeId} {z : Value} {key : Value} {kl : Lit} (h : MapAt P k w b n f) (K : Maps.Keyed P k) (ht : P.underlying t = some (.map k e)) (hz : (zeroValue e).run P w = .ok z w) (hkey : keyOf P k key = some kl) :
    (Instr.lookup t (.map (some b)) key true).run P w = .ok (.tuple #[(f kl).getD z, .bool (f kl).isSome]) w := by
  obtain ⟨D, ho, hf⟩ := h
  obtain ⟨v, ps, hr, hv⟩ := ho.look_ok K ht hz (zd := .held z) (zp := []) rfl hkey
  rw [hr]
  have e : DataW.held v = D.atKey kl (.held z) := by simp [heldElem] at hv; exact hv.1
  cases hk : f kl with
  | none =>
    rw [(hf kl).1 hk]
    rw [Maps.atKey_of_not_has ((hf kl).1 hk)] at e
    injection e with e
    rw [e]; rfl
  | some u =>
    rw [((hf kl).2 u hk).1]
    rw [((hf kl).2 u hk).2] at e
    injection e with e
    rw [e]; rfl
theorem MapAt.putFact {D : DataW Value} {kl : Lit} {v : Value} {m : Nat} (ho : w.ownsMap P k heldElem b m D) (hf : ∀ l, (f l = none → Maps.has D l = false) ∧ ∀ v, f l = some v → Maps.has D l = true ∧ ∀ z, D.atKey l z = .held v) (hk : WideAt.IsKeyLit kl)
    (ho' : w'.ownsMap P k heldElem b n (D.put kl (.held v))) : MapAt P k w' b n (putF f kl v) := by
  refine ⟨_, ho', fun l => ?_⟩
  by_cases hl : l = kl
  · subst hl
    rw [putF_same hk]
    refine ⟨fun h => (by cases h), fun u hu => ?_⟩
    injection hu with hu
    subst hu
    exact ⟨Maps.has_put_same ho.isMap hk _, fun z => Maps.atKey_put_same ho.isMap hk _ z⟩
  · rw [putF_other hl]
    refine ⟨fun h => by rw [Maps.has_put_other hl]; exact (hf l).1 h, fun u hu => ?_⟩
    obtain ⟨h1, h2⟩ := (hf l).2 u hu
    exact ⟨by rw [Maps.has_put_other hl]; exact h1, fun z => by rw [Maps.atKey_put_other hl]; exact h2 z⟩
end

theorem MapAt.put {P : Program} {k t e : TypeId} {w : World} {b n : Nat} {f : Lit → Option Value} {key val : Value} {kl : Lit} (h : MapAt P k w b n f) (K : Maps.Keyed P k) (ht : P.underlying t = some (.map k e)) (hn : n < maxLen) (hkey : keyOf P k key = some kl) :
    ∃ w', (Instr.mapUpdate t (.map (some b)) key val).run P w = .ok () w' ∧ MapAt P k w' b (n + 1) (putF f kl val) ∧ w.grownBy w' (some b) := by
  obtain ⟨D, ho, hf⟩ := h
  obtain ⟨w', hr, h1, h2⟩ := ho.update K ht hn hkey (val := val) (d := .held val) (ps := []) rfl
  exact ⟨w', hr, MapAt.putFact ho hf (K.key hkey) h1, h2⟩

/-- a key of a map's literal -/
theorem wpList_insert {P : Program} (w : World) {ops : Array Oper} {rest : List Oper} {o : Oper} {a : Act} {Q : Exit → Act → World → Prop}
    (hg : o.guard = none) (m x v : Operand) (t : TypeId) (hop : o.op = Op.insert t m x v) (k e : TypeId) (K : Maps.Keyed P k) (ht : P.underlying t = some (.map k e)) (b n : Nat) (f : Lit → Option Value)
    (hm : a.eval m = .map (some b)) (hown : MapAt P k w b n f) (hn : n < maxLen) (key val : Value) (kl : Lit) (hx : a.eval x = key) (hv : a.eval v = val) (hkey : keyOf P k key = some kl)
    (hK : ∀ w', MapAt P k w' b (n + 1) (putF f kl val) → w.grownBy w' (some b) → wpList P ops Q rest (a.put o.dst undef) w') : wpList P ops Q (o :: rest) a w := by
  refine wpList_plain hg fun K' hK' => ?_
  obtain ⟨w', hrun, r1, r2⟩ := hown.put K ht hn hkey (val := val)
  unfold Oper.wp
  simp [execOp, hop, hm, hx, hv, hrun, Result.andThen]
  exact hK' _ _ (hK w' r1 r2)

/-- 'm[k] = v', what is left of it in a region that draws -/
theorem upon_put {P : Program} {k t e : TypeId} {w : World} {o : Oper} {a : Act} {K : Act → World → Prop} {Q : Exit → Act → World → Prop} {b n : Nat} {f : Lit → Option Value} {key val : Value} {kl : Lit} (h : MapAt P k w b n f) (Kd : Maps.Keyed P k) (ht : P.underlying t = some (.map k e)) (hn : n < maxLen) (hkey : keyOf P k key = some kl)
    (hK : ∀ w', MapAt P k w' b (n + 1) (putF f kl val) → w.grownBy w' (some b) → K (a.put o.dst undef) w') :
    Oper.upon P o a K Q (((Instr.mapUpdate t (.map (some b)) key val).run P w).andThen fun _ w' => .ok .skip w') := by
  obtain ⟨w', hrun, r1, r2⟩ := h.put Kd ht hn hkey (val := val)
  rw [hrun]
  simp [Result.andThen, Oper.upon]
  exact hK w' r1 r2

/-- 'm[k] = v' at the operation -/
theorem wpList_put {P : Program} (w : World) {ops : Array Oper} {rest : List Oper} {o : Oper} {a : Act} {Q : Exit → Act → World → Prop}
    (hg : o.guard = none) (m x v : Operand) (t : TypeId) (hop : o.op = Op.mapUpdate t m x v) (k e : TypeId) (K : Maps.Keyed P k) (ht : P.underlying t = some (.map k e)) (b n : Nat) (f : Lit → Option Value)
    (hm : a.eval m = .map (some b)) (hown : MapAt P k w b n f) (hn : n < maxLen) (key val : Value) (kl : Lit) (hx : a.eval x = key) (hv : a.eval v = val) (hkey : keyOf P k key = some kl)
    (hK : ∀ w', MapAt P k w' b (n + 1) (putF f kl val) → w.grownBy w' (some b) → wpList P ops Q rest (a.put o.dst undef) w') : wpList P ops Q (o :: rest) a w := by
  obtain ⟨D, ho, hf⟩ := hown
  refine wpList_mapUpdate_own w hg m x v t hop k e K ht heldElem b n D hm ho hn key val kl hx hv hkey (.held val) [] rfl ?_
  intro w1 h1 h2
  exact hK w1 (MapAt.putFact ho hf (K.key hkey) h1) h2

end Go.Proofs.Ytocdkeidjocmkaa
