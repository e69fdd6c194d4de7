/- A region that draws its order, whose operations read, and whose calls hand back one value and leave what was there: one walk in the order of the text. -/
import Derived.Test.YtocdkeidjocmkaaOwn
namespace Go.Proofs.Ytocdkeidjocmkaa
set_option linter.unusedVariables false
set_option linter.unusedSimpArgs false
open Go.RowKit

/-- a world in which all that lay in w0 lies -/
structure BW (w0 : World) where
  val : World
  below : Below w0.heap.size w0 val

instance (w0 : World) : Nonempty (BW w0) := ⟨⟨w0, Below.refl _ _⟩⟩

theorem BW.cell {w0 : World} (x : BW w0) (b o : Nat) (h : b < w0.heap.size) : x.val.cell? ⟨b, o, none⟩ = w0.cell? ⟨b, o, none⟩ := x.below.cell (p := ⟨b, o, none⟩) h

theorem wp_region_below {P : Program} {id : Nat} {Q : Exit → Act → World → Prop} {a : Act} {w0 : World} {l : List Oper} (hm : P.follows .mixedOrders = true) (hB : Region.lexB .any l.toArray = true)
    (h : wpQuiet P l.toArray (fun w' => ∃ x : BW w0, w' = x.val) (fun a' => ∀ w', (∃ x : BW w0, w' = x.val) → Q .normal a' w') l a) : (Code.region id l.toArray true).wp P Q a w0 :=
  wp_region_quiet (C := fun w' => ∃ x : BW w0, w' = x.val) hm hB ⟨⟨w0.drew, (Below.refl _ _).drew⟩, rfl⟩ (by simpa using h)

theorem calls_lex {P : Program} {f : FuncId} {args : Array Value} {w0 : World} {x : BW w0} {v : Value} (h : Calls P f args x.val (RetB v x.val)) : Calls P f args x.val fun e w'' => e = .returned v ∧ ∃ x' : BW w0, w'' = x'.val :=
  h.mono fun _ w'' ⟨he, hb⟩ => ⟨he, ⟨w'', x.below.trans (hb.mono x.below.size)⟩, rfl⟩
theorem RetB.of_eq {P : Program} {f : FuncId} {args : Array Value} {w : World} {v : Value} (h : Calls P f args w fun e w' => e = .returned v ∧ w = w') : Calls P f args w (RetB v w) :=
  h.mono fun _ _ ⟨he, hw⟩ => ⟨he, hw ▸ Below.refl _ _⟩
theorem RetB.of_eq' {P : Program} {f : FuncId} {args : Array Value} {w : World} {v : Value} (h : Calls P f args w fun e w' => e = .returned v ∧ w' = w) : Calls P f args w (RetB v w) :=
  h.mono fun _ _ ⟨he, hw⟩ => ⟨he, hw ▸ Below.refl _ _⟩

end Go.Proofs.Ytocdkeidjocmkaa
