/-
  No cell of these rows narrows 'for every input' (looked for: loops, veiled, ifaces, maps, wideKeys, modest, calm, conditions, laid).
  DERIVED. THE GIVEN ROWS OF THIS SEAT. 10 by the template 'for every input the law returns true; each argument reads behind the call as it read before'; 0 by the template 'total and deterministic' (their statements: YtfenkhhfiomfeaaTotals.lean).
  GIVEN WITH THE SEED: the statements are not yours to turn. If you find one false, say at which input.
  Laid BY PROGRAM, IN A SANDBOX (cutbox-rows.mjs): the forced cells as the released guide's own fill.sh prints them over the translation 8705e3ded55b485b… (all of the seat's roots in one cut). By AI agents, Wed Nov 11 2026. No macro, syntax, notation, axiom, sorry.
-/
import Derived.Test.YtfenkhhfiomfeaaChecked
import GoSem.Claim
import GoSem.ClaimJoined
import GoSem.ClaimMapViews
import Derived.JoinedTies
import Derived.KernelRfl
namespace Go.Proofs.Ytfenkhhfiomfeaa
/- THE CELL 'sum', in the pinned program and in every row, IS THE sha256 OF THE DUMP (.gsa) THAT YtfenkhhfiomfeaaProg.lean LOADS. Nothing in Lean hashes anything: it is a label: what it is worth is what the hold of that sum in a sandbox is worth. -/
noncomputable def Try.pinned : Pinned := { name := "ytfenkhhfiomfeaa", sum := "8705e3ded55b485b884907b1c18426d3df312a3a727bf36219e32c36226e7bc6", checked := Try.checked }
namespace Rows
def none {H : Type} : Left H := { results := [], args := [] }

/-- 'laws.FnExactValidRoads': WHATEVER THE INPUT: true; the input reads as it did. -/
def fnExactValidRoadsSpec : ChangeSpec := { name := "fnExactValidRoads", fn := fun _ => fun
  | [d] => { results := [.lit (.bool true)], args := [d] }
  | _ => none }
def fnExactValidRoadsRow : OpenClaim := { program := "ytfenkhhfiomfeaa", sum := "8705e3ded55b485b884907b1c18426d3df312a3a727bf36219e32c36226e7bc6", func := "loop.example/g01102/laws.FnExactValidRoads", spec := "fnExactValidRoads", unfollowed := true, recurses := true, apart := false }
def FnExactValidRoadsSaid : Prop := fnExactValidRoadsRow.holds Try.pinned (OpenSpec.ofChange fnExactValidRoadsSpec)

/-- ITS FALSE NEIGHBOUR: 'it returns false'. Refute it at one input. -/
def fnExactValidRoadsWrong : ChangeSpec := { name := "fnExactValidRoads", fn := fun _ => fun
  | [d] => { results := [.lit (.bool false)], args := [d] }
  | _ => none }
def FnExactValidRoadsWrongFalsely : Prop := fnExactValidRoadsRow.holds Try.pinned (OpenSpec.ofChange fnExactValidRoadsWrong)

/-- 'laws.FnExactSameChoice': WHATEVER THE INPUT: true; the input reads as it did. -/
def fnExactSameChoiceSpec : ChangeSpec := { name := "fnExactSameChoice", fn := fun _ => fun
  | [d1, d2] => { results := [.lit (.bool true)], args := [d1, d2] }
  | _ => none }
def fnExactSameChoiceRow : OpenClaim := { program := "ytfenkhhfiomfeaa", sum := "8705e3ded55b485b884907b1c18426d3df312a3a727bf36219e32c36226e7bc6", func := "loop.example/g01102/laws.FnExactSameChoice", spec := "fnExactSameChoice", unfollowed := true, recurses := true, apart := false }
def FnExactSameChoiceSaid : Prop := fnExactSameChoiceRow.holds Try.pinned (OpenSpec.ofChange fnExactSameChoiceSpec)

/-- ITS FALSE NEIGHBOUR: 'it returns false'. Refute it at one input. -/
def fnExactSameChoiceWrong : ChangeSpec := { name := "fnExactSameChoice", fn := fun _ => fun
  | [d1, d2] => { results := [.lit (.bool false)], args := [d1, d2] }
  | _ => none }
def FnExactSameChoiceWrongFalsely : Prop := fnExactSameChoiceRow.holds Try.pinned (OpenSpec.ofChange fnExactSameChoiceWrong)

/-- 'laws.FnExactValidChoice': WHATEVER THE INPUT: true; the input reads as it did. -/
def fnExactValidChoiceSpec : ChangeSpec := { name := "fnExactValidChoice", fn := fun _ => fun
  | [d] => { results := [.lit (.bool true)], args := [d] }
  | _ => none }
def fnExactValidChoiceRow : OpenClaim := { program := "ytfenkhhfiomfeaa", sum := "8705e3ded55b485b884907b1c18426d3df312a3a727bf36219e32c36226e7bc6", func := "loop.example/g01102/laws.FnExactValidChoice", spec := "fnExactValidChoice", unfollowed := true, recurses := true, apart := false }
def FnExactValidChoiceSaid : Prop := fnExactValidChoiceRow.holds Try.pinned (OpenSpec.ofChange fnExactValidChoiceSpec)

/-- ITS FALSE NEIGHBOUR: 'it returns false'. Refute it at one input. -/
def fnExactValidChoiceWrong : ChangeSpec := { name := "fnExactValidChoice", fn := fun _ => fun
  | [d] => { results := [.lit (.bool false)], args := [d] }
  | _ => none }
def FnExactValidChoiceWrongFalsely : Prop := fnExactValidChoiceRow.holds Try.pinned (OpenSpec.ofChange fnExactValidChoiceWrong)

/-- 'laws.FnExactIsTotal': WHATEVER THE INPUT: true; the input reads as it did. -/
def fnExactIsTotalSpec : ChangeSpec := { name := "fnExactIsTotal", fn := fun _ => fun
  | [d] => { results := [.lit (.bool true)], args := [d] }
  | _ => none }
def fnExactIsTotalRow : OpenClaim := { program := "ytfenkhhfiomfeaa", sum := "8705e3ded55b485b884907b1c18426d3df312a3a727bf36219e32c36226e7bc6", func := "loop.example/g01102/laws.FnExactIsTotal", spec := "fnExactIsTotal", unfollowed := true, recurses := true, apart := false }
def FnExactIsTotalSaid : Prop := fnExactIsTotalRow.holds Try.pinned (OpenSpec.ofChange fnExactIsTotalSpec)

/-- ITS FALSE NEIGHBOUR: 'it returns false'. Refute it at one input. -/
def fnExactIsTotalWrong : ChangeSpec := { name := "fnExactIsTotal", fn := fun _ => fun
  | [d] => { results := [.lit (.bool false)], args := [d] }
  | _ => none }
def FnExactIsTotalWrongFalsely : Prop := fnExactIsTotalRow.holds Try.pinned (OpenSpec.ofChange fnExactIsTotalWrong)

/-- 'laws.FnExactProductOf': WHATEVER THE INPUT: true; the input reads as it did. -/
def fnExactProductOfSpec : ChangeSpec := { name := "fnExactProductOf", fn := fun _ => fun
  | [d1, d2] => { results := [.lit (.bool true)], args := [d1, d2] }
  | _ => none }
def fnExactProductOfRow : OpenClaim := { program := "ytfenkhhfiomfeaa", sum := "8705e3ded55b485b884907b1c18426d3df312a3a727bf36219e32c36226e7bc6", func := "loop.example/g01102/laws.FnExactProductOf", spec := "fnExactProductOf", unfollowed := true, recurses := true, apart := false }
def FnExactProductOfSaid : Prop := fnExactProductOfRow.holds Try.pinned (OpenSpec.ofChange fnExactProductOfSpec)

/-- ITS FALSE NEIGHBOUR: 'it returns false'. Refute it at one input. -/
def fnExactProductOfWrong : ChangeSpec := { name := "fnExactProductOf", fn := fun _ => fun
  | [d1, d2] => { results := [.lit (.bool false)], args := [d1, d2] }
  | _ => none }
def FnExactProductOfWrongFalsely : Prop := fnExactProductOfRow.holds Try.pinned (OpenSpec.ofChange fnExactProductOfWrong)

/-- 'laws.FnExactRefineChoice': WHATEVER THE INPUT: true; the input reads as it did. -/
def fnExactRefineChoiceSpec : ChangeSpec := { name := "fnExactRefineChoice", fn := fun _ => fun
  | [d1, d2] => { results := [.lit (.bool true)], args := [d1, d2] }
  | _ => none }
def fnExactRefineChoiceRow : OpenClaim := { program := "ytfenkhhfiomfeaa", sum := "8705e3ded55b485b884907b1c18426d3df312a3a727bf36219e32c36226e7bc6", func := "loop.example/g01102/laws.FnExactRefineChoice", spec := "fnExactRefineChoice", unfollowed := true, recurses := true, apart := false }
def FnExactRefineChoiceSaid : Prop := fnExactRefineChoiceRow.holds Try.pinned (OpenSpec.ofChange fnExactRefineChoiceSpec)

/-- ITS FALSE NEIGHBOUR: 'it returns false'. Refute it at one input. -/
def fnExactRefineChoiceWrong : ChangeSpec := { name := "fnExactRefineChoice", fn := fun _ => fun
  | [d1, d2] => { results := [.lit (.bool false)], args := [d1, d2] }
  | _ => none }
def FnExactRefineChoiceWrongFalsely : Prop := fnExactRefineChoiceRow.holds Try.pinned (OpenSpec.ofChange fnExactRefineChoiceWrong)

/-- 'laws.FnExactGapsOf': WHATEVER THE INPUT: true; the input reads as it did. -/
def fnExactGapsOfSpec : ChangeSpec := { name := "fnExactGapsOf", fn := fun _ => fun
  | [d] => { results := [.lit (.bool true)], args := [d] }
  | _ => none }
def fnExactGapsOfRow : OpenClaim := { program := "ytfenkhhfiomfeaa", sum := "8705e3ded55b485b884907b1c18426d3df312a3a727bf36219e32c36226e7bc6", func := "loop.example/g01102/laws.FnExactGapsOf", spec := "fnExactGapsOf", unfollowed := true, recurses := true, apart := false }
def FnExactGapsOfSaid : Prop := fnExactGapsOfRow.holds Try.pinned (OpenSpec.ofChange fnExactGapsOfSpec)

/-- ITS FALSE NEIGHBOUR: 'it returns false'. Refute it at one input. -/
def fnExactGapsOfWrong : ChangeSpec := { name := "fnExactGapsOf", fn := fun _ => fun
  | [d] => { results := [.lit (.bool false)], args := [d] }
  | _ => none }
def FnExactGapsOfWrongFalsely : Prop := fnExactGapsOfRow.holds Try.pinned (OpenSpec.ofChange fnExactGapsOfWrong)

/-- 'laws.FnExactIsFullyReached': WHATEVER THE INPUT: true; the input reads as it did. -/
def fnExactIsFullyReachedSpec : ChangeSpec := { name := "fnExactIsFullyReached", fn := fun _ => fun
  | [d] => { results := [.lit (.bool true)], args := [d] }
  | _ => none }
def fnExactIsFullyReachedRow : OpenClaim := { program := "ytfenkhhfiomfeaa", sum := "8705e3ded55b485b884907b1c18426d3df312a3a727bf36219e32c36226e7bc6", func := "loop.example/g01102/laws.FnExactIsFullyReached", spec := "fnExactIsFullyReached", unfollowed := true, recurses := true, apart := false }
def FnExactIsFullyReachedSaid : Prop := fnExactIsFullyReachedRow.holds Try.pinned (OpenSpec.ofChange fnExactIsFullyReachedSpec)

/-- ITS FALSE NEIGHBOUR: 'it returns false'. Refute it at one input. -/
def fnExactIsFullyReachedWrong : ChangeSpec := { name := "fnExactIsFullyReached", fn := fun _ => fun
  | [d] => { results := [.lit (.bool false)], args := [d] }
  | _ => none }
def FnExactIsFullyReachedWrongFalsely : Prop := fnExactIsFullyReachedRow.holds Try.pinned (OpenSpec.ofChange fnExactIsFullyReachedWrong)

/-- 'laws.FnExactCountColourings': WHATEVER THE INPUT: true; the input reads as it did. -/
def fnExactCountColouringsSpec : ChangeSpec := { name := "fnExactCountColourings", fn := fun _ => fun
  | [d] => { results := [.lit (.bool true)], args := [d] }
  | _ => none }
def fnExactCountColouringsRow : OpenClaim := { program := "ytfenkhhfiomfeaa", sum := "8705e3ded55b485b884907b1c18426d3df312a3a727bf36219e32c36226e7bc6", func := "loop.example/g01102/laws.FnExactCountColourings", spec := "fnExactCountColourings", unfollowed := true, recurses := true, apart := false }
def FnExactCountColouringsSaid : Prop := fnExactCountColouringsRow.holds Try.pinned (OpenSpec.ofChange fnExactCountColouringsSpec)

/-- ITS FALSE NEIGHBOUR: 'it returns false'. Refute it at one input. -/
def fnExactCountColouringsWrong : ChangeSpec := { name := "fnExactCountColourings", fn := fun _ => fun
  | [d] => { results := [.lit (.bool false)], args := [d] }
  | _ => none }
def FnExactCountColouringsWrongFalsely : Prop := fnExactCountColouringsRow.holds Try.pinned (OpenSpec.ofChange fnExactCountColouringsWrong)

/-- 'laws.FnExactChoiceOf': WHATEVER THE INPUT: true; the input reads as it did. -/
def fnExactChoiceOfSpec : ChangeSpec := { name := "fnExactChoiceOf", fn := fun _ => fun
  | [d] => { results := [.lit (.bool true)], args := [d] }
  | _ => none }
def fnExactChoiceOfRow : OpenClaim := { program := "ytfenkhhfiomfeaa", sum := "8705e3ded55b485b884907b1c18426d3df312a3a727bf36219e32c36226e7bc6", func := "loop.example/g01102/laws.FnExactChoiceOf", spec := "fnExactChoiceOf", unfollowed := true, recurses := true, apart := false }
def FnExactChoiceOfSaid : Prop := fnExactChoiceOfRow.holds Try.pinned (OpenSpec.ofChange fnExactChoiceOfSpec)

/-- ITS FALSE NEIGHBOUR: 'it returns false'. Refute it at one input. -/
def fnExactChoiceOfWrong : ChangeSpec := { name := "fnExactChoiceOf", fn := fun _ => fun
  | [d] => { results := [.lit (.bool false)], args := [d] }
  | _ => none }
def FnExactChoiceOfWrongFalsely : Prop := fnExactChoiceOfRow.holds Try.pinned (OpenSpec.ofChange fnExactChoiceOfWrong)

/- THE SECOND FORM. 'bulk': how many values and letters a reading holds, each counted each time it is reached (what is shared counts as often as it is met; a slice's spare places count too). A statement '..UptoSaid' is the law's where the arguments, and the package variables that the reading takes, are together of bulk at most 1048576: NARROWER than '..Said'. Prove '..Said' where nothing that the law and all that it calls make is longer than what came in: it says more and counts as full. Else prove '..UptoSaid'. A law counts once. -/
mutual
def uptoBulk {H : Type} : DataW H → Nat
  | .lit (.string bytes) => bytes.length + 1
  | .lit _ => 1
  | .nil => 1
  | .ptr d => uptoBulk d + 1
  | .slice elems spare => uptoBulkAll elems + uptoBulkAll spare + 1
  | .agg parts => uptoBulkAll parts + 1
  | .iface _ d => uptoBulk d + 1
  | .map entries => uptoBulkEntries entries + 1
  | .held _ => 1
def uptoBulkAll {H : Type} : List (DataW H) → Nat
  | [] => 0
  | d :: r => uptoBulk d + uptoBulkAll r
def uptoBulkEntries {H : Type} : List (Lit × DataW H) → Nat
  | [] => 0
  | x :: r => uptoBulkEntry x + uptoBulkEntries r
def uptoBulkEntry {H : Type} : Lit × DataW H → Nat
  | (.string bytes, d) => bytes.length + uptoBulk d + 1
  | (_, d) => uptoBulk d + 1
 end
def uptoSmall : (H : Type) → List (DataW H) → Bool := fun _ ds => decide (uptoBulkAll ds ≤ 1048576)
def OpenSpec.upto (s : _root_.Go.ChangeSpec) : _root_.Go.OpenSpec := { _root_.Go.OpenSpec.ofChange s with cond := some uptoSmall }

/-- 'laws.FnExactValidRoads', WHERE WHAT IT READS IS OF BULK AT MOST 1048576: true; the input reads as it did. -/
def fnExactValidRoadsUptoRow : OpenClaim := { program := "ytfenkhhfiomfeaa", sum := "8705e3ded55b485b884907b1c18426d3df312a3a727bf36219e32c36226e7bc6", func := "loop.example/g01102/laws.FnExactValidRoads", spec := "fnExactValidRoads", unfollowed := true, recurses := true, apart := false, narrowed := true }
def FnExactValidRoadsUptoSaid : Prop := fnExactValidRoadsUptoRow.holds Try.pinned (OpenSpec.upto fnExactValidRoadsSpec)

/-- 'laws.FnExactSameChoice', WHERE WHAT IT READS IS OF BULK AT MOST 1048576: true; the input reads as it did. -/
def fnExactSameChoiceUptoRow : OpenClaim := { program := "ytfenkhhfiomfeaa", sum := "8705e3ded55b485b884907b1c18426d3df312a3a727bf36219e32c36226e7bc6", func := "loop.example/g01102/laws.FnExactSameChoice", spec := "fnExactSameChoice", unfollowed := true, recurses := true, apart := false, narrowed := true }
def FnExactSameChoiceUptoSaid : Prop := fnExactSameChoiceUptoRow.holds Try.pinned (OpenSpec.upto fnExactSameChoiceSpec)

/-- 'laws.FnExactValidChoice', WHERE WHAT IT READS IS OF BULK AT MOST 1048576: true; the input reads as it did. -/
def fnExactValidChoiceUptoRow : OpenClaim := { program := "ytfenkhhfiomfeaa", sum := "8705e3ded55b485b884907b1c18426d3df312a3a727bf36219e32c36226e7bc6", func := "loop.example/g01102/laws.FnExactValidChoice", spec := "fnExactValidChoice", unfollowed := true, recurses := true, apart := false, narrowed := true }
def FnExactValidChoiceUptoSaid : Prop := fnExactValidChoiceUptoRow.holds Try.pinned (OpenSpec.upto fnExactValidChoiceSpec)

/-- 'laws.FnExactIsTotal', WHERE WHAT IT READS IS OF BULK AT MOST 1048576: true; the input reads as it did. -/
def fnExactIsTotalUptoRow : OpenClaim := { program := "ytfenkhhfiomfeaa", sum := "8705e3ded55b485b884907b1c18426d3df312a3a727bf36219e32c36226e7bc6", func := "loop.example/g01102/laws.FnExactIsTotal", spec := "fnExactIsTotal", unfollowed := true, recurses := true, apart := false, narrowed := true }
def FnExactIsTotalUptoSaid : Prop := fnExactIsTotalUptoRow.holds Try.pinned (OpenSpec.upto fnExactIsTotalSpec)

/-- 'laws.FnExactProductOf', WHERE WHAT IT READS IS OF BULK AT MOST 1048576: true; the input reads as it did. -/
def fnExactProductOfUptoRow : OpenClaim := { program := "ytfenkhhfiomfeaa", sum := "8705e3ded55b485b884907b1c18426d3df312a3a727bf36219e32c36226e7bc6", func := "loop.example/g01102/laws.FnExactProductOf", spec := "fnExactProductOf", unfollowed := true, recurses := true, apart := false, narrowed := true }
def FnExactProductOfUptoSaid : Prop := fnExactProductOfUptoRow.holds Try.pinned (OpenSpec.upto fnExactProductOfSpec)

/-- 'laws.FnExactRefineChoice', WHERE WHAT IT READS IS OF BULK AT MOST 1048576: true; the input reads as it did. -/
def fnExactRefineChoiceUptoRow : OpenClaim := { program := "ytfenkhhfiomfeaa", sum := "8705e3ded55b485b884907b1c18426d3df312a3a727bf36219e32c36226e7bc6", func := "loop.example/g01102/laws.FnExactRefineChoice", spec := "fnExactRefineChoice", unfollowed := true, recurses := true, apart := false, narrowed := true }
def FnExactRefineChoiceUptoSaid : Prop := fnExactRefineChoiceUptoRow.holds Try.pinned (OpenSpec.upto fnExactRefineChoiceSpec)

/-- 'laws.FnExactGapsOf', WHERE WHAT IT READS IS OF BULK AT MOST 1048576: true; the input reads as it did. -/
def fnExactGapsOfUptoRow : OpenClaim := { program := "ytfenkhhfiomfeaa", sum := "8705e3ded55b485b884907b1c18426d3df312a3a727bf36219e32c36226e7bc6", func := "loop.example/g01102/laws.FnExactGapsOf", spec := "fnExactGapsOf", unfollowed := true, recurses := true, apart := false, narrowed := true }
def FnExactGapsOfUptoSaid : Prop := fnExactGapsOfUptoRow.holds Try.pinned (OpenSpec.upto fnExactGapsOfSpec)

/-- 'laws.FnExactIsFullyReached', WHERE WHAT IT READS IS OF BULK AT MOST 1048576: true; the input reads as it did. -/
def fnExactIsFullyReachedUptoRow : OpenClaim := { program := "ytfenkhhfiomfeaa", sum := "8705e3ded55b485b884907b1c18426d3df312a3a727bf36219e32c36226e7bc6", func := "loop.example/g01102/laws.FnExactIsFullyReached", spec := "fnExactIsFullyReached", unfollowed := true, recurses := true, apart := false, narrowed := true }
def FnExactIsFullyReachedUptoSaid : Prop := fnExactIsFullyReachedUptoRow.holds Try.pinned (OpenSpec.upto fnExactIsFullyReachedSpec)

/-- 'laws.FnExactCountColourings', WHERE WHAT IT READS IS OF BULK AT MOST 1048576: true; the input reads as it did. -/
def fnExactCountColouringsUptoRow : OpenClaim := { program := "ytfenkhhfiomfeaa", sum := "8705e3ded55b485b884907b1c18426d3df312a3a727bf36219e32c36226e7bc6", func := "loop.example/g01102/laws.FnExactCountColourings", spec := "fnExactCountColourings", unfollowed := true, recurses := true, apart := false, narrowed := true }
def FnExactCountColouringsUptoSaid : Prop := fnExactCountColouringsUptoRow.holds Try.pinned (OpenSpec.upto fnExactCountColouringsSpec)

/-- 'laws.FnExactChoiceOf', WHERE WHAT IT READS IS OF BULK AT MOST 1048576: true; the input reads as it did. -/
def fnExactChoiceOfUptoRow : OpenClaim := { program := "ytfenkhhfiomfeaa", sum := "8705e3ded55b485b884907b1c18426d3df312a3a727bf36219e32c36226e7bc6", func := "loop.example/g01102/laws.FnExactChoiceOf", spec := "fnExactChoiceOf", unfollowed := true, recurses := true, apart := false, narrowed := true }
def FnExactChoiceOfUptoSaid : Prop := fnExactChoiceOfUptoRow.holds Try.pinned (OpenSpec.upto fnExactChoiceOfSpec)

end Rows
end Go.Proofs.Ytfenkhhfiomfeaa
