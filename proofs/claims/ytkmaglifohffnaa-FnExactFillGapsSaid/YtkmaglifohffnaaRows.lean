/-
  No cell of these rows narrows 'for every input' (looked for: loops, veiled, ifaces, maps, wideKeys, modest, calm, conditions, laid).
  DERIVED. THE GIVEN ROWS OF THIS SEAT. 12 by the template 'for every input the law returns true; each argument reads behind the call as it read before'; 0 by the template 'total and deterministic' (their statements: YtkmaglifohffnaaTotals.lean).
  GIVEN WITH THE SEED: the statements are not yours to turn. If you find one false, say at which input.
  Laid BY PROGRAM, IN A SANDBOX (cutbox-rows.mjs): the forced cells as the released guide's own fill.sh prints them over the translation 5309c0481eea0fa0… (all of the seat's roots in one cut). By AI agents, Wed Nov 11 2026. No macro, syntax, notation, axiom, sorry.
-/
import Derived.Test.YtkmaglifohffnaaChecked
import GoSem.Claim
import GoSem.ClaimJoined
import GoSem.ClaimMapViews
import Derived.JoinedTies
import Derived.KernelRfl
namespace Go.Proofs.Ytkmaglifohffnaa
/- THE CELL 'sum', in the pinned program and in every row, IS THE sha256 OF THE DUMP (.gsa) THAT YtkmaglifohffnaaProg.lean LOADS. Nothing in Lean hashes anything: it is a label: what it is worth is what the hold of that sum in a sandbox is worth. -/
noncomputable def Try.pinned : Pinned := { name := "ytkmaglifohffnaa", sum := "5309c0481eea0fa0993ce11368f1cc0a6b09e29413d1bd756a5ccb52ef0d56cf", checked := Try.checked }
namespace Rows
def none {H : Type} : Left H := { results := [], args := [] }

/-- 'laws.FnExactProductOf': WHATEVER THE INPUT: true; the input reads as it did. -/
def fnExactProductOfSpec : ChangeSpec := { name := "fnExactProductOf", fn := fun _ => fun
  | [d1, d2] => { results := [.lit (.bool true)], args := [d1, d2] }
  | _ => none }
def fnExactProductOfRow : OpenClaim := { program := "ytkmaglifohffnaa", sum := "5309c0481eea0fa0993ce11368f1cc0a6b09e29413d1bd756a5ccb52ef0d56cf", func := "loop.example/g01102/laws.FnExactProductOf", spec := "fnExactProductOf", unfollowed := true, recurses := true, apart := false }
def FnExactProductOfSaid : Prop := fnExactProductOfRow.holds Try.pinned (OpenSpec.ofChange fnExactProductOfSpec)

/-- ITS FALSE NEIGHBOUR: 'it returns false'. Refute it at one input. -/
def fnExactProductOfWrong : ChangeSpec := { name := "fnExactProductOf", fn := fun _ => fun
  | [d1, d2] => { results := [.lit (.bool false)], args := [d1, d2] }
  | _ => none }
def FnExactProductOfWrongFalsely : Prop := fnExactProductOfRow.holds Try.pinned (OpenSpec.ofChange fnExactProductOfWrong)

/-- 'laws.FnExactRefineChoice': WHATEVER THE INPUT: true; the input reads as it did. -/
def fnExactRefineChoiceSpec : ChangeSpec := { name := "fnExactRefineChoice", fn := fun _ => fun
  | [d1, d2] => { results := [.lit (.bool true)], args := [d1, d2] }
  | _ => none }
def fnExactRefineChoiceRow : OpenClaim := { program := "ytkmaglifohffnaa", sum := "5309c0481eea0fa0993ce11368f1cc0a6b09e29413d1bd756a5ccb52ef0d56cf", func := "loop.example/g01102/laws.FnExactRefineChoice", spec := "fnExactRefineChoice", unfollowed := true, recurses := true, apart := false }
def FnExactRefineChoiceSaid : Prop := fnExactRefineChoiceRow.holds Try.pinned (OpenSpec.ofChange fnExactRefineChoiceSpec)

/-- ITS FALSE NEIGHBOUR: 'it returns false'. Refute it at one input. -/
def fnExactRefineChoiceWrong : ChangeSpec := { name := "fnExactRefineChoice", fn := fun _ => fun
  | [d1, d2] => { results := [.lit (.bool false)], args := [d1, d2] }
  | _ => none }
def FnExactRefineChoiceWrongFalsely : Prop := fnExactRefineChoiceRow.holds Try.pinned (OpenSpec.ofChange fnExactRefineChoiceWrong)

/-- 'laws.FnExactGapsOf': WHATEVER THE INPUT: true; the input reads as it did. -/
def fnExactGapsOfSpec : ChangeSpec := { name := "fnExactGapsOf", fn := fun _ => fun
  | [d] => { results := [.lit (.bool true)], args := [d] }
  | _ => none }
def fnExactGapsOfRow : OpenClaim := { program := "ytkmaglifohffnaa", sum := "5309c0481eea0fa0993ce11368f1cc0a6b09e29413d1bd756a5ccb52ef0d56cf", func := "loop.example/g01102/laws.FnExactGapsOf", spec := "fnExactGapsOf", unfollowed := true, recurses := true, apart := false }
def FnExactGapsOfSaid : Prop := fnExactGapsOfRow.holds Try.pinned (OpenSpec.ofChange fnExactGapsOfSpec)

/-- ITS FALSE NEIGHBOUR: 'it returns false'. Refute it at one input. -/
def fnExactGapsOfWrong : ChangeSpec := { name := "fnExactGapsOf", fn := fun _ => fun
  | [d] => { results := [.lit (.bool false)], args := [d] }
  | _ => none }
def FnExactGapsOfWrongFalsely : Prop := fnExactGapsOfRow.holds Try.pinned (OpenSpec.ofChange fnExactGapsOfWrong)

/-- 'laws.FnExactIsFullyReached': WHATEVER THE INPUT: true; the input reads as it did. -/
def fnExactIsFullyReachedSpec : ChangeSpec := { name := "fnExactIsFullyReached", fn := fun _ => fun
  | [d] => { results := [.lit (.bool true)], args := [d] }
  | _ => none }
def fnExactIsFullyReachedRow : OpenClaim := { program := "ytkmaglifohffnaa", sum := "5309c0481eea0fa0993ce11368f1cc0a6b09e29413d1bd756a5ccb52ef0d56cf", func := "loop.example/g01102/laws.FnExactIsFullyReached", spec := "fnExactIsFullyReached", unfollowed := true, recurses := true, apart := false }
def FnExactIsFullyReachedSaid : Prop := fnExactIsFullyReachedRow.holds Try.pinned (OpenSpec.ofChange fnExactIsFullyReachedSpec)

/-- ITS FALSE NEIGHBOUR: 'it returns false'. Refute it at one input. -/
def fnExactIsFullyReachedWrong : ChangeSpec := { name := "fnExactIsFullyReached", fn := fun _ => fun
  | [d] => { results := [.lit (.bool false)], args := [d] }
  | _ => none }
def FnExactIsFullyReachedWrongFalsely : Prop := fnExactIsFullyReachedRow.holds Try.pinned (OpenSpec.ofChange fnExactIsFullyReachedWrong)

/-- 'laws.FnExactCountColourings': WHATEVER THE INPUT: true; the input reads as it did. -/
def fnExactCountColouringsSpec : ChangeSpec := { name := "fnExactCountColourings", fn := fun _ => fun
  | [d] => { results := [.lit (.bool true)], args := [d] }
  | _ => none }
def fnExactCountColouringsRow : OpenClaim := { program := "ytkmaglifohffnaa", sum := "5309c0481eea0fa0993ce11368f1cc0a6b09e29413d1bd756a5ccb52ef0d56cf", func := "loop.example/g01102/laws.FnExactCountColourings", spec := "fnExactCountColourings", unfollowed := true, recurses := true, apart := false }
def FnExactCountColouringsSaid : Prop := fnExactCountColouringsRow.holds Try.pinned (OpenSpec.ofChange fnExactCountColouringsSpec)

/-- ITS FALSE NEIGHBOUR: 'it returns false'. Refute it at one input. -/
def fnExactCountColouringsWrong : ChangeSpec := { name := "fnExactCountColourings", fn := fun _ => fun
  | [d] => { results := [.lit (.bool false)], args := [d] }
  | _ => none }
def FnExactCountColouringsWrongFalsely : Prop := fnExactCountColouringsRow.holds Try.pinned (OpenSpec.ofChange fnExactCountColouringsWrong)

/-- 'laws.FnExactChoiceOf': WHATEVER THE INPUT: true; the input reads as it did. -/
def fnExactChoiceOfSpec : ChangeSpec := { name := "fnExactChoiceOf", fn := fun _ => fun
  | [d] => { results := [.lit (.bool true)], args := [d] }
  | _ => none }
def fnExactChoiceOfRow : OpenClaim := { program := "ytkmaglifohffnaa", sum := "5309c0481eea0fa0993ce11368f1cc0a6b09e29413d1bd756a5ccb52ef0d56cf", func := "loop.example/g01102/laws.FnExactChoiceOf", spec := "fnExactChoiceOf", unfollowed := true, recurses := true, apart := false }
def FnExactChoiceOfSaid : Prop := fnExactChoiceOfRow.holds Try.pinned (OpenSpec.ofChange fnExactChoiceOfSpec)

/-- ITS FALSE NEIGHBOUR: 'it returns false'. Refute it at one input. -/
def fnExactChoiceOfWrong : ChangeSpec := { name := "fnExactChoiceOf", fn := fun _ => fun
  | [d] => { results := [.lit (.bool false)], args := [d] }
  | _ => none }
def FnExactChoiceOfWrongFalsely : Prop := fnExactChoiceOfRow.holds Try.pinned (OpenSpec.ofChange fnExactChoiceOfWrong)

/-- 'laws.FnExactCarefulWord': WHATEVER THE INPUT: true; the input reads as it did. -/
def fnExactCarefulWordSpec : ChangeSpec := { name := "fnExactCarefulWord", fn := fun _ => fun
  | [d] => { results := [.lit (.bool true)], args := [d] }
  | _ => none }
def fnExactCarefulWordRow : OpenClaim := { program := "ytkmaglifohffnaa", sum := "5309c0481eea0fa0993ce11368f1cc0a6b09e29413d1bd756a5ccb52ef0d56cf", func := "loop.example/g01102/laws.FnExactCarefulWord", spec := "fnExactCarefulWord", unfollowed := true, recurses := true, apart := false }
def FnExactCarefulWordSaid : Prop := fnExactCarefulWordRow.holds Try.pinned (OpenSpec.ofChange fnExactCarefulWordSpec)

/-- ITS FALSE NEIGHBOUR: 'it returns false'. Refute it at one input. -/
def fnExactCarefulWordWrong : ChangeSpec := { name := "fnExactCarefulWord", fn := fun _ => fun
  | [d] => { results := [.lit (.bool false)], args := [d] }
  | _ => none }
def FnExactCarefulWordWrongFalsely : Prop := fnExactCarefulWordRow.holds Try.pinned (OpenSpec.ofChange fnExactCarefulWordWrong)

/-- 'laws.FnExactRankOf': WHATEVER THE INPUT: true; the input reads as it did. -/
def fnExactRankOfSpec : ChangeSpec := { name := "fnExactRankOf", fn := fun _ => fun
  | [d] => { results := [.lit (.bool true)], args := [d] }
  | _ => none }
def fnExactRankOfRow : OpenClaim := { program := "ytkmaglifohffnaa", sum := "5309c0481eea0fa0993ce11368f1cc0a6b09e29413d1bd756a5ccb52ef0d56cf", func := "loop.example/g01102/laws.FnExactRankOf", spec := "fnExactRankOf", unfollowed := true, recurses := true, apart := false }
def FnExactRankOfSaid : Prop := fnExactRankOfRow.holds Try.pinned (OpenSpec.ofChange fnExactRankOfSpec)

/-- ITS FALSE NEIGHBOUR: 'it returns false'. Refute it at one input. -/
def fnExactRankOfWrong : ChangeSpec := { name := "fnExactRankOf", fn := fun _ => fun
  | [d] => { results := [.lit (.bool false)], args := [d] }
  | _ => none }
def FnExactRankOfWrongFalsely : Prop := fnExactRankOfRow.holds Try.pinned (OpenSpec.ofChange fnExactRankOfWrong)

/-- 'laws.FnExactFillGaps': WHATEVER THE INPUT: true; the input reads as it did. -/
def fnExactFillGapsSpec : ChangeSpec := { name := "fnExactFillGaps", fn := fun _ => fun
  | [d1, d2] => { results := [.lit (.bool true)], args := [d1, d2] }
  | _ => none }
def fnExactFillGapsRow : OpenClaim := { program := "ytkmaglifohffnaa", sum := "5309c0481eea0fa0993ce11368f1cc0a6b09e29413d1bd756a5ccb52ef0d56cf", func := "loop.example/g01102/laws.FnExactFillGaps", spec := "fnExactFillGaps", unfollowed := true, recurses := true, apart := false }
def FnExactFillGapsSaid : Prop := fnExactFillGapsRow.holds Try.pinned (OpenSpec.ofChange fnExactFillGapsSpec)

/-- ITS FALSE NEIGHBOUR: 'it returns false'. Refute it at one input. -/
def fnExactFillGapsWrong : ChangeSpec := { name := "fnExactFillGaps", fn := fun _ => fun
  | [d1, d2] => { results := [.lit (.bool false)], args := [d1, d2] }
  | _ => none }
def FnExactFillGapsWrongFalsely : Prop := fnExactFillGapsRow.holds Try.pinned (OpenSpec.ofChange fnExactFillGapsWrong)

/-- 'laws.FnExactCanReset': WHATEVER THE INPUT: true; the input reads as it did. -/
def fnExactCanResetSpec : ChangeSpec := { name := "fnExactCanReset", fn := fun _ => fun
  | [d] => { results := [.lit (.bool true)], args := [d] }
  | _ => none }
def fnExactCanResetRow : OpenClaim := { program := "ytkmaglifohffnaa", sum := "5309c0481eea0fa0993ce11368f1cc0a6b09e29413d1bd756a5ccb52ef0d56cf", func := "loop.example/g01102/laws.FnExactCanReset", spec := "fnExactCanReset", unfollowed := true, recurses := true, apart := false }
def FnExactCanResetSaid : Prop := fnExactCanResetRow.holds Try.pinned (OpenSpec.ofChange fnExactCanResetSpec)

/-- ITS FALSE NEIGHBOUR: 'it returns false'. Refute it at one input. -/
def fnExactCanResetWrong : ChangeSpec := { name := "fnExactCanReset", fn := fun _ => fun
  | [d] => { results := [.lit (.bool false)], args := [d] }
  | _ => none }
def FnExactCanResetWrongFalsely : Prop := fnExactCanResetRow.holds Try.pinned (OpenSpec.ofChange fnExactCanResetWrong)

/-- 'laws.FnExactMonoidOf': WHATEVER THE INPUT: true; the input reads as it did. -/
def fnExactMonoidOfSpec : ChangeSpec := { name := "fnExactMonoidOf", fn := fun _ => fun
  | [d] => { results := [.lit (.bool true)], args := [d] }
  | _ => none }
def fnExactMonoidOfRow : OpenClaim := { program := "ytkmaglifohffnaa", sum := "5309c0481eea0fa0993ce11368f1cc0a6b09e29413d1bd756a5ccb52ef0d56cf", func := "loop.example/g01102/laws.FnExactMonoidOf", spec := "fnExactMonoidOf", unfollowed := true, recurses := true, apart := false }
def FnExactMonoidOfSaid : Prop := fnExactMonoidOfRow.holds Try.pinned (OpenSpec.ofChange fnExactMonoidOfSpec)

/-- ITS FALSE NEIGHBOUR: 'it returns false'. Refute it at one input. -/
def fnExactMonoidOfWrong : ChangeSpec := { name := "fnExactMonoidOf", fn := fun _ => fun
  | [d] => { results := [.lit (.bool false)], args := [d] }
  | _ => none }
def FnExactMonoidOfWrongFalsely : Prop := fnExactMonoidOfRow.holds Try.pinned (OpenSpec.ofChange fnExactMonoidOfWrong)

/-- 'laws.FnExactShortestReset': WHATEVER THE INPUT: true; the input reads as it did. -/
def fnExactShortestResetSpec : ChangeSpec := { name := "fnExactShortestReset", fn := fun _ => fun
  | [d] => { results := [.lit (.bool true)], args := [d] }
  | _ => none }
def fnExactShortestResetRow : OpenClaim := { program := "ytkmaglifohffnaa", sum := "5309c0481eea0fa0993ce11368f1cc0a6b09e29413d1bd756a5ccb52ef0d56cf", func := "loop.example/g01102/laws.FnExactShortestReset", spec := "fnExactShortestReset", unfollowed := true, recurses := true, apart := false }
def FnExactShortestResetSaid : Prop := fnExactShortestResetRow.holds Try.pinned (OpenSpec.ofChange fnExactShortestResetSpec)

/-- ITS FALSE NEIGHBOUR: 'it returns false'. Refute it at one input. -/
def fnExactShortestResetWrong : ChangeSpec := { name := "fnExactShortestReset", fn := fun _ => fun
  | [d] => { results := [.lit (.bool false)], args := [d] }
  | _ => none }
def FnExactShortestResetWrongFalsely : Prop := fnExactShortestResetRow.holds Try.pinned (OpenSpec.ofChange fnExactShortestResetWrong)

/- THE SECOND FORM. 'bulk': how many values and letters a reading holds, each counted each time it is reached (what is shared counts as often as it is met; a slice's spare places count too). A statement '..UptoSaid' is the law's where the arguments, and the package variables that the reading takes, are together of bulk at most 1048576: NARROWER than '..Said'. Prove '..Said' where nothing that the law and all that it calls make is longer than what came in: it says more and counts as full. Else prove '..UptoSaid'. A law counts once. -/
mutual
def uptoBulk {H : Type} : DataW H → Nat
  | .lit (.string bytes) => bytes.length + 1
  | .lit _ => 1
  | .nil => 1
  | .ptr d => uptoBulk d + 1
  | .slice elems spare => uptoBulkAll elems + uptoBulkAll spare + 1
  | .agg parts => uptoBulkAll parts + 1
  | .iface _ d => uptoBulk d + 1
  | .map entries => uptoBulkEntries entries + 1
  | .held _ => 1
def uptoBulkAll {H : Type} : List (DataW H) → Nat
  | [] => 0
  | d :: r => uptoBulk d + uptoBulkAll r
def uptoBulkEntries {H : Type} : List (Lit × DataW H) → Nat
  | [] => 0
  | x :: r => uptoBulkEntry x + uptoBulkEntries r
def uptoBulkEntry {H : Type} : Lit × DataW H → Nat
  | (.string bytes, d) => bytes.length + uptoBulk d + 1
  | (_, d) => uptoBulk d + 1
 end
def uptoSmall : (H : Type) → List (DataW H) → Bool := fun _ ds => decide (uptoBulkAll ds ≤ 1048576)
def OpenSpec.upto (s : _root_.Go.ChangeSpec) : _root_.Go.OpenSpec := { _root_.Go.OpenSpec.ofChange s with cond := some uptoSmall }

/-- 'laws.FnExactProductOf', WHERE WHAT IT READS IS OF BULK AT MOST 1048576: true; the input reads as it did. -/
def fnExactProductOfUptoRow : OpenClaim := { program := "ytkmaglifohffnaa", sum := "5309c0481eea0fa0993ce11368f1cc0a6b09e29413d1bd756a5ccb52ef0d56cf", func := "loop.example/g01102/laws.FnExactProductOf", spec := "fnExactProductOf", unfollowed := true, recurses := true, apart := false, narrowed := true }
def FnExactProductOfUptoSaid : Prop := fnExactProductOfUptoRow.holds Try.pinned (OpenSpec.upto fnExactProductOfSpec)

/-- 'laws.FnExactRefineChoice', WHERE WHAT IT READS IS OF BULK AT MOST 1048576: true; the input reads as it did. -/
def fnExactRefineChoiceUptoRow : OpenClaim := { program := "ytkmaglifohffnaa", sum := "5309c0481eea0fa0993ce11368f1cc0a6b09e29413d1bd756a5ccb52ef0d56cf", func := "loop.example/g01102/laws.FnExactRefineChoice", spec := "fnExactRefineChoice", unfollowed := true, recurses := true, apart := false, narrowed := true }
def FnExactRefineChoiceUptoSaid : Prop := fnExactRefineChoiceUptoRow.holds Try.pinned (OpenSpec.upto fnExactRefineChoiceSpec)

/-- 'laws.FnExactGapsOf', WHERE WHAT IT READS IS OF BULK AT MOST 1048576: true; the input reads as it did. -/
def fnExactGapsOfUptoRow : OpenClaim := { program := "ytkmaglifohffnaa", sum := "5309c0481eea0fa0993ce11368f1cc0a6b09e29413d1bd756a5ccb52ef0d56cf", func := "loop.example/g01102/laws.FnExactGapsOf", spec := "fnExactGapsOf", unfollowed := true, recurses := true, apart := false, narrowed := true }
def FnExactGapsOfUptoSaid : Prop := fnExactGapsOfUptoRow.holds Try.pinned (OpenSpec.upto fnExactGapsOfSpec)

/-- 'laws.FnExactIsFullyReached', WHERE WHAT IT READS IS OF BULK AT MOST 1048576: true; the input reads as it did. -/
def fnExactIsFullyReachedUptoRow : OpenClaim := { program := "ytkmaglifohffnaa", sum := "5309c0481eea0fa0993ce11368f1cc0a6b09e29413d1bd756a5ccb52ef0d56cf", func := "loop.example/g01102/laws.FnExactIsFullyReached", spec := "fnExactIsFullyReached", unfollowed := true, recurses := true, apart := false, narrowed := true }
def FnExactIsFullyReachedUptoSaid : Prop := fnExactIsFullyReachedUptoRow.holds Try.pinned (OpenSpec.upto fnExactIsFullyReachedSpec)

/-- 'laws.FnExactCountColourings', WHERE WHAT IT READS IS OF BULK AT MOST 1048576: true; the input reads as it did. -/
def fnExactCountColouringsUptoRow : OpenClaim := { program := "ytkmaglifohffnaa", sum := "5309c0481eea0fa0993ce11368f1cc0a6b09e29413d1bd756a5ccb52ef0d56cf", func := "loop.example/g01102/laws.FnExactCountColourings", spec := "fnExactCountColourings", unfollowed := true, recurses := true, apart := false, narrowed := true }
def FnExactCountColouringsUptoSaid : Prop := fnExactCountColouringsUptoRow.holds Try.pinned (OpenSpec.upto fnExactCountColouringsSpec)

/-- 'laws.FnExactChoiceOf', WHERE WHAT IT READS IS OF BULK AT MOST 1048576: true; the input reads as it did. -/
def fnExactChoiceOfUptoRow : OpenClaim := { program := "ytkmaglifohffnaa", sum := "5309c0481eea0fa0993ce11368f1cc0a6b09e29413d1bd756a5ccb52ef0d56cf", func := "loop.example/g01102/laws.FnExactChoiceOf", spec := "fnExactChoiceOf", unfollowed := true, recurses := true, apart := false, narrowed := true }
def FnExactChoiceOfUptoSaid : Prop := fnExactChoiceOfUptoRow.holds Try.pinned (OpenSpec.upto fnExactChoiceOfSpec)

/-- 'laws.FnExactCarefulWord', WHERE WHAT IT READS IS OF BULK AT MOST 1048576: true; the input reads as it did. -/
def fnExactCarefulWordUptoRow : OpenClaim := { program := "ytkmaglifohffnaa", sum := "5309c0481eea0fa0993ce11368f1cc0a6b09e29413d1bd756a5ccb52ef0d56cf", func := "loop.example/g01102/laws.FnExactCarefulWord", spec := "fnExactCarefulWord", unfollowed := true, recurses := true, apart := false, narrowed := true }
def FnExactCarefulWordUptoSaid : Prop := fnExactCarefulWordUptoRow.holds Try.pinned (OpenSpec.upto fnExactCarefulWordSpec)

/-- 'laws.FnExactRankOf', WHERE WHAT IT READS IS OF BULK AT MOST 1048576: true; the input reads as it did. -/
def fnExactRankOfUptoRow : OpenClaim := { program := "ytkmaglifohffnaa", sum := "5309c0481eea0fa0993ce11368f1cc0a6b09e29413d1bd756a5ccb52ef0d56cf", func := "loop.example/g01102/laws.FnExactRankOf", spec := "fnExactRankOf", unfollowed := true, recurses := true, apart := false, narrowed := true }
def FnExactRankOfUptoSaid : Prop := fnExactRankOfUptoRow.holds Try.pinned (OpenSpec.upto fnExactRankOfSpec)

/-- 'laws.FnExactFillGaps', WHERE WHAT IT READS IS OF BULK AT MOST 1048576: true; the input reads as it did. -/
def fnExactFillGapsUptoRow : OpenClaim := { program := "ytkmaglifohffnaa", sum := "5309c0481eea0fa0993ce11368f1cc0a6b09e29413d1bd756a5ccb52ef0d56cf", func := "loop.example/g01102/laws.FnExactFillGaps", spec := "fnExactFillGaps", unfollowed := true, recurses := true, apart := false, narrowed := true }
def FnExactFillGapsUptoSaid : Prop := fnExactFillGapsUptoRow.holds Try.pinned (OpenSpec.upto fnExactFillGapsSpec)

/-- 'laws.FnExactCanReset', WHERE WHAT IT READS IS OF BULK AT MOST 1048576: true; the input reads as it did. -/
def fnExactCanResetUptoRow : OpenClaim := { program := "ytkmaglifohffnaa", sum := "5309c0481eea0fa0993ce11368f1cc0a6b09e29413d1bd756a5ccb52ef0d56cf", func := "loop.example/g01102/laws.FnExactCanReset", spec := "fnExactCanReset", unfollowed := true, recurses := true, apart := false, narrowed := true }
def FnExactCanResetUptoSaid : Prop := fnExactCanResetUptoRow.holds Try.pinned (OpenSpec.upto fnExactCanResetSpec)

/-- 'laws.FnExactMonoidOf', WHERE WHAT IT READS IS OF BULK AT MOST 1048576: true; the input reads as it did. -/
def fnExactMonoidOfUptoRow : OpenClaim := { program := "ytkmaglifohffnaa", sum := "5309c0481eea0fa0993ce11368f1cc0a6b09e29413d1bd756a5ccb52ef0d56cf", func := "loop.example/g01102/laws.FnExactMonoidOf", spec := "fnExactMonoidOf", unfollowed := true, recurses := true, apart := false, narrowed := true }
def FnExactMonoidOfUptoSaid : Prop := fnExactMonoidOfUptoRow.holds Try.pinned (OpenSpec.upto fnExactMonoidOfSpec)

/-- 'laws.FnExactShortestReset', WHERE WHAT IT READS IS OF BULK AT MOST 1048576: true; the input reads as it did. -/
def fnExactShortestResetUptoRow : OpenClaim := { program := "ytkmaglifohffnaa", sum := "5309c0481eea0fa0993ce11368f1cc0a6b09e29413d1bd756a5ccb52ef0d56cf", func := "loop.example/g01102/laws.FnExactShortestReset", spec := "fnExactShortestReset", unfollowed := true, recurses := true, apart := false, narrowed := true }
def FnExactShortestResetUptoSaid : Prop := fnExactShortestResetUptoRow.holds Try.pinned (OpenSpec.upto fnExactShortestResetSpec)

end Rows
end Go.Proofs.Ytkmaglifohffnaa
