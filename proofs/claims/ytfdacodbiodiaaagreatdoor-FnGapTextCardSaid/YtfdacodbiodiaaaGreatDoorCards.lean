/-
  DERIVED. GIVEN WITH THE SEED: THE CARDS: each row of YtfdacodbiodiaaaGreatDoorRows.lean that lists a variable, with what it lists TIED to the program's text (the seventh form; the later family's looks); each row that meets fmt, with fmt's text TOLD by the authors' own Lean function (tested against real Go, not proved from fmt's source: count such statements apart). THE CARD IS WHAT COUNTS. Prove the row's statement (the work); the ties are given (YtfdacodbiodiaaaGreatDoorTie.lean); close each card by the builder's one call (the guide's Derived/Test/ToyasCard.lean, 'card_holds'). Laid BY PROGRAM, IN A SANDBOX (cutbox-door.mjs). By AI agents, Wed Nov 11 2026. No macro, syntax, notation, axiom, sorry.
-/
import Derived.Test.YtfdacodbiodiaaaGreatDoorRows
import GoSem.ClaimSeven
namespace Go.Proofs.YtfdacodbiodiaaaGreatDoor
namespace Rows

/-- THE TIED CARD OF 'laws.FnGapText'. -/
def fnGapTextCard : Claim7 := { stood := { row := fnGapTextRow, standIns := [], harness := (true, "732c2ad06ce1b2b126baa7e65e9513d99ae7a18b5866f76ac035ff265686add9"), looks := true }, kinds := [], alts := [], laidByText := true, laidKinds := [.data, .data, .data, .data, .sentinel, .sentinel, .pinned], laidTests := true, laidLooks := .later }
def FnGapTextCardSaid : Prop := Claim7.holds Tryz.pinned (.plain (OpenSpec.ofChange fnGapTextSpec)) fnGapTextCard

/-- THE SECOND FORM's CARD OF 'laws.FnGapText'. -/
def fnGapTextUptoCard : Claim7 := { stood := { row := fnGapTextUptoRow, standIns := [], harness := (true, "732c2ad06ce1b2b126baa7e65e9513d99ae7a18b5866f76ac035ff265686add9"), looks := true }, kinds := [], alts := [], laidByText := true, laidKinds := [.data, .data, .data, .data, .sentinel, .sentinel, .pinned], laidTests := true, laidLooks := .later }
def FnGapTextUptoCardSaid : Prop := Claim7.holds Tryz.pinned (.plain (OpenSpec.upto fnGapTextSpec)) fnGapTextUptoCard
end Rows
end Go.Proofs.YtfdacodbiodiaaaGreatDoor
