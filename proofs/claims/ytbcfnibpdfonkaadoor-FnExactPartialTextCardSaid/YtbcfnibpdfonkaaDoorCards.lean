/-
  DERIVED. GIVEN WITH THE SEED: THE CARDS: each row of YtbcfnibpdfonkaaDoorRows.lean that lists a variable, with what it lists TIED to the program's text (the seventh form; the later family's looks); each row that meets fmt, with fmt's text TOLD by the authors' own Lean function (tested against real Go, not proved from fmt's source: count such statements apart). THE CARD IS WHAT COUNTS. Prove the row's statement (the work); the ties are given (YtbcfnibpdfonkaaDoorTie.lean); close each card by the builder's one call (the guide's Derived/Test/ToyasCard.lean, 'card_holds'). Laid BY PROGRAM, IN A SANDBOX (cutbox-door.mjs). By AI agents, Wed Nov 11 2026. No macro, syntax, notation, axiom, sorry.
-/
import Derived.Test.YtbcfnibpdfonkaaDoorRows
import GoSem.ClaimSeven
namespace Go.Proofs.YtbcfnibpdfonkaaDoor
namespace Rows

/-- THE TIED CARD OF 'laws.FnExactAutomatonText'. -/
def fnExactAutomatonTextCard : Claim7 := { stood := { row := fnExactAutomatonTextRow, standIns := [], harness := (true, "13cfa30d469001c08dd7d7aa4b61825e5b12c1ba7062915737e3d460282bc6aa"), looks := false }, kinds := [], alts := [], laidByText := true, laidKinds := [.data, .data, .data], laidTests := true, laidLooks := .later }
def FnExactAutomatonTextCardSaid : Prop := Claim7.holds Tryd.pinned (.plain (OpenSpec.ofChange fnExactAutomatonTextSpec)) fnExactAutomatonTextCard

/-- THE TIED CARD OF 'laws.FnExactRoadsText'. -/
def fnExactRoadsTextCard : Claim7 := { stood := { row := fnExactRoadsTextRow, standIns := [], harness := (true, "13cfa30d469001c08dd7d7aa4b61825e5b12c1ba7062915737e3d460282bc6aa"), looks := false }, kinds := [], alts := [], laidByText := true, laidKinds := [.data, .data, .data], laidTests := true, laidLooks := .later }
def FnExactRoadsTextCardSaid : Prop := Claim7.holds Tryd.pinned (.plain (OpenSpec.ofChange fnExactRoadsTextSpec)) fnExactRoadsTextCard

/-- THE TIED CARD OF 'laws.FnExactPartialText'. -/
def fnExactPartialTextCard : Claim7 := { stood := { row := fnExactPartialTextRow, standIns := [], harness := (true, "13cfa30d469001c08dd7d7aa4b61825e5b12c1ba7062915737e3d460282bc6aa"), looks := false }, kinds := [], alts := [], laidByText := true, laidKinds := [.data, .data, .data], laidTests := true, laidLooks := .later }
def FnExactPartialTextCardSaid : Prop := Claim7.holds Tryd.pinned (.plain (OpenSpec.ofChange fnExactPartialTextSpec)) fnExactPartialTextCard

/-- THE SECOND FORM's CARD OF 'laws.FnExactAutomatonText'. -/
def fnExactAutomatonTextUptoCard : Claim7 := { stood := { row := fnExactAutomatonTextUptoRow, standIns := [], harness := (true, "13cfa30d469001c08dd7d7aa4b61825e5b12c1ba7062915737e3d460282bc6aa"), looks := false }, kinds := [], alts := [], laidByText := true, laidKinds := [.data, .data, .data], laidTests := true, laidLooks := .later }
def FnExactAutomatonTextUptoCardSaid : Prop := Claim7.holds Tryd.pinned (.plain (OpenSpec.upto fnExactAutomatonTextSpec)) fnExactAutomatonTextUptoCard

/-- THE SECOND FORM's CARD OF 'laws.FnExactRoadsText'. -/
def fnExactRoadsTextUptoCard : Claim7 := { stood := { row := fnExactRoadsTextUptoRow, standIns := [], harness := (true, "13cfa30d469001c08dd7d7aa4b61825e5b12c1ba7062915737e3d460282bc6aa"), looks := false }, kinds := [], alts := [], laidByText := true, laidKinds := [.data, .data, .data], laidTests := true, laidLooks := .later }
def FnExactRoadsTextUptoCardSaid : Prop := Claim7.holds Tryd.pinned (.plain (OpenSpec.upto fnExactRoadsTextSpec)) fnExactRoadsTextUptoCard

/-- THE SECOND FORM's CARD OF 'laws.FnExactPartialText'. -/
def fnExactPartialTextUptoCard : Claim7 := { stood := { row := fnExactPartialTextUptoRow, standIns := [], harness := (true, "13cfa30d469001c08dd7d7aa4b61825e5b12c1ba7062915737e3d460282bc6aa"), looks := false }, kinds := [], alts := [], laidByText := true, laidKinds := [.data, .data, .data], laidTests := true, laidLooks := .later }
def FnExactPartialTextUptoCardSaid : Prop := Claim7.holds Tryd.pinned (.plain (OpenSpec.upto fnExactPartialTextSpec)) fnExactPartialTextUptoCard
end Rows
end Go.Proofs.YtbcfnibpdfonkaaDoor
