/-
  DERIVED. GIVEN WITH THE SEED: THE CARDS: each row of YtfdacodbiodiaaaDoorRows.lean that lists a variable, with what it lists TIED to the program's text (the seventh form; the later family's looks); each row that meets fmt, with fmt's text TOLD by the authors' own Lean function (tested against real Go, not proved from fmt's source: count such statements apart). THE CARD IS WHAT COUNTS. Prove the row's statement (the work); the ties are given (YtfdacodbiodiaaaDoorTie.lean); close each card by the builder's one call (the guide's Derived/Test/ToyasCard.lean, 'card_holds'). Laid BY PROGRAM, IN A SANDBOX (cutbox-door.mjs). By AI agents, Wed Nov 11 2026. No macro, syntax, notation, axiom, sorry.
-/
import Derived.Test.YtfdacodbiodiaaaDoorRows
import GoSem.ClaimSeven
namespace Go.Proofs.YtfdacodbiodiaaaDoor
namespace Rows

/-- THE TIED CARD OF 'laws.FnExactReadPartial'. -/
def fnExactReadPartialCard : Claim7 := { stood := { row := fnExactReadPartialRow, standIns := [], harness := (true, "26232b816f70c43493814a6ccc1a7b06288712313fdf04e6cee7cfa96566a56d"), looks := true }, kinds := [], alts := [], laidByText := true, laidKinds := [.data, .data, .data, .data, .sentinel, .sentinel, .pinned], laidTests := true, laidLooks := .later }
def FnExactReadPartialCardSaid : Prop := Claim7.holds Tryd.pinned (.plain (OpenSpec.ofChange fnExactReadPartialSpec)) fnExactReadPartialCard

/-- THE TIED CARD OF 'laws.FnExactReadChoice'. -/
def fnExactReadChoiceCard : Claim7 := { stood := { row := fnExactReadChoiceRow, standIns := [], harness := (true, "26232b816f70c43493814a6ccc1a7b06288712313fdf04e6cee7cfa96566a56d"), looks := true }, kinds := [], alts := [], laidByText := true, laidKinds := [.data, .data, .data, .data, .sentinel, .sentinel, .pinned], laidTests := true, laidLooks := .later }
def FnExactReadChoiceCardSaid : Prop := Claim7.holds Tryd.pinned (.plain (OpenSpec.ofChange fnExactReadChoiceSpec)) fnExactReadChoiceCard

/-- THE TIED CARD OF 'laws.FnExactReadAutomaton'. -/
def fnExactReadAutomatonCard : Claim7 := { stood := { row := fnExactReadAutomatonRow, standIns := [], harness := (true, "26232b816f70c43493814a6ccc1a7b06288712313fdf04e6cee7cfa96566a56d"), looks := true }, kinds := [], alts := [], laidByText := true, laidKinds := [.data, .data, .data, .data, .sentinel, .sentinel, .pinned], laidTests := true, laidLooks := .later }
def FnExactReadAutomatonCardSaid : Prop := Claim7.holds Tryd.pinned (.plain (OpenSpec.ofChange fnExactReadAutomatonSpec)) fnExactReadAutomatonCard

/-- THE SECOND FORM's CARD OF 'laws.FnExactReadPartial'. -/
def fnExactReadPartialUptoCard : Claim7 := { stood := { row := fnExactReadPartialUptoRow, standIns := [], harness := (true, "26232b816f70c43493814a6ccc1a7b06288712313fdf04e6cee7cfa96566a56d"), looks := true }, kinds := [], alts := [], laidByText := true, laidKinds := [.data, .data, .data, .data, .sentinel, .sentinel, .pinned], laidTests := true, laidLooks := .later }
def FnExactReadPartialUptoCardSaid : Prop := Claim7.holds Tryd.pinned (.plain (OpenSpec.upto fnExactReadPartialSpec)) fnExactReadPartialUptoCard

/-- THE SECOND FORM's CARD OF 'laws.FnExactReadChoice'. -/
def fnExactReadChoiceUptoCard : Claim7 := { stood := { row := fnExactReadChoiceUptoRow, standIns := [], harness := (true, "26232b816f70c43493814a6ccc1a7b06288712313fdf04e6cee7cfa96566a56d"), looks := true }, kinds := [], alts := [], laidByText := true, laidKinds := [.data, .data, .data, .data, .sentinel, .sentinel, .pinned], laidTests := true, laidLooks := .later }
def FnExactReadChoiceUptoCardSaid : Prop := Claim7.holds Tryd.pinned (.plain (OpenSpec.upto fnExactReadChoiceSpec)) fnExactReadChoiceUptoCard

/-- THE SECOND FORM's CARD OF 'laws.FnExactReadAutomaton'. -/
def fnExactReadAutomatonUptoCard : Claim7 := { stood := { row := fnExactReadAutomatonUptoRow, standIns := [], harness := (true, "26232b816f70c43493814a6ccc1a7b06288712313fdf04e6cee7cfa96566a56d"), looks := true }, kinds := [], alts := [], laidByText := true, laidKinds := [.data, .data, .data, .data, .sentinel, .sentinel, .pinned], laidTests := true, laidLooks := .later }
def FnExactReadAutomatonUptoCardSaid : Prop := Claim7.holds Tryd.pinned (.plain (OpenSpec.upto fnExactReadAutomatonSpec)) fnExactReadAutomatonUptoCard
end Rows
end Go.Proofs.YtfdacodbiodiaaaDoor
