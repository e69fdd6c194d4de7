/-
  DERIVED. GIVEN WITH THE SEED: THE CARDS: each row of YtlekhbhefglekaaDoorRows.lean that lists a variable, with what it lists TIED to the program's text (the seventh form; the later family's looks); each row that meets fmt, with fmt's text TOLD by the authors' own Lean function (tested against real Go, not proved from fmt's source: count such statements apart). THE CARD IS WHAT COUNTS. Prove the row's statement (the work); the ties are given (YtlekhbhefglekaaDoorTie.lean); close each card by the builder's one call (the guide's Derived/Test/ToyasCard.lean, 'card_holds'). Laid BY PROGRAM, IN A SANDBOX (cutbox-door.mjs). By AI agents, Wed Nov 11 2026. No macro, syntax, notation, axiom, sorry.
-/
import Derived.Test.YtlekhbhefglekaaDoorRows
import GoSem.ClaimSeven
namespace Go.Proofs.YtlekhbhefglekaaDoor
namespace Rows

/-- THE TIED CARD OF 'laws.FnExactChoiceText'. -/
def fnExactChoiceTextCard : Claim7 := { stood := { row := fnExactChoiceTextRow, standIns := [], harness := (true, "8a345aeaf1c0446ffc7cf70f34a2183b4090d0c3b0608c0ca7ad710c1692d962"), looks := false }, kinds := [], alts := [], laidByText := true, laidKinds := [.data, .data, .data], laidTests := true, laidLooks := .later }
def FnExactChoiceTextCardSaid : Prop := Claim7.holds Tryd.pinned (.plain (OpenSpec.ofChange fnExactChoiceTextSpec)) fnExactChoiceTextCard

/-- THE SECOND FORM's CARD OF 'laws.FnExactChoiceText'. -/
def fnExactChoiceTextUptoCard : Claim7 := { stood := { row := fnExactChoiceTextUptoRow, standIns := [], harness := (true, "8a345aeaf1c0446ffc7cf70f34a2183b4090d0c3b0608c0ca7ad710c1692d962"), looks := false }, kinds := [], alts := [], laidByText := true, laidKinds := [.data, .data, .data], laidTests := true, laidLooks := .later }
def FnExactChoiceTextUptoCardSaid : Prop := Claim7.holds Tryd.pinned (.plain (OpenSpec.upto fnExactChoiceTextSpec)) fnExactChoiceTextUptoCard
end Rows
end Go.Proofs.YtlekhbhefglekaaDoor
