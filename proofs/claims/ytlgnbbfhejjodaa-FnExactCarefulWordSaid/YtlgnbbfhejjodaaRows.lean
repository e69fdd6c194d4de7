/-
  No cell of these rows narrows 'for every input' (looked for: loops, veiled, ifaces, maps, wideKeys, modest, calm, conditions, laid).
  DERIVED. THE GIVEN ROWS OF THIS SEAT. 12 by the template 'for every input the law returns true; each argument reads behind the call as it read before'; 0 by the template 'total and deterministic' (their statements: YtlgnbbfhejjodaaTotals.lean).
  GIVEN WITH THE SEED: the statements are not yours to turn. If you find one false, say at which input.
  Laid BY PROGRAM, IN A SANDBOX (cutbox-rows.mjs): the forced cells as the released guide's own fill.sh prints them over the translation 85a3021030d68c43… (all of the seat's roots in one cut). By AI agents, Wed Nov 11 2026. No macro, syntax, notation, axiom, sorry.
-/
import Derived.Test.YtlgnbbfhejjodaaChecked
import GoSem.Claim
import GoSem.ClaimJoined
import GoSem.ClaimMapViews
import Derived.JoinedTies
import Derived.KernelRfl
namespace Go.Proofs.Ytlgnbbfhejjodaa
/- THE CELL 'sum', in the pinned program and in every row, IS THE sha256 OF THE DUMP (.gsa) THAT YtlgnbbfhejjodaaProg.lean LOADS. Nothing in Lean hashes anything: it is a label: what it is worth is what the hold of that sum in a sandbox is worth. -/
noncomputable def Try.pinned : Pinned := { name := "ytlgnbbfhejjodaa", sum := "85a3021030d68c43affbb29c66531c52db9fb9d90d055203790d2a0131f24431", checked := Try.checked }
namespace Rows
def none {H : Type} : Left H := { results := [], args := [] }

/-- 'laws.FnExactRankOf': WHATEVER THE INPUT: true; the input reads as it did. -/
def fnExactRankOfSpec : ChangeSpec := { name := "fnExactRankOf", fn := fun _ => fun
  | [d] => { results := [.lit (.bool true)], args := [d] }
  | _ => none }
def fnExactRankOfRow : OpenClaim := { program := "ytlgnbbfhejjodaa", sum := "85a3021030d68c43affbb29c66531c52db9fb9d90d055203790d2a0131f24431", func := "loop.example/g01102/laws.FnExactRankOf", spec := "fnExactRankOf", unfollowed := true, recurses := true, apart := false }
def FnExactRankOfSaid : Prop := fnExactRankOfRow.holds Try.pinned (OpenSpec.ofChange fnExactRankOfSpec)

/-- ITS FALSE NEIGHBOUR: 'it returns false'. Refute it at one input. -/
def fnExactRankOfWrong : ChangeSpec := { name := "fnExactRankOf", fn := fun _ => fun
  | [d] => { results := [.lit (.bool false)], args := [d] }
  | _ => none }
def FnExactRankOfWrongFalsely : Prop := fnExactRankOfRow.holds Try.pinned (OpenSpec.ofChange fnExactRankOfWrong)

/-- 'laws.FnExactShortestReset': WHATEVER THE INPUT: true; the input reads as it did. -/
def fnExactShortestResetSpec : ChangeSpec := { name := "fnExactShortestReset", fn := fun _ => fun
  | [d] => { results := [.lit (.bool true)], args := [d] }
  | _ => none }
def fnExactShortestResetRow : OpenClaim := { program := "ytlgnbbfhejjodaa", sum := "85a3021030d68c43affbb29c66531c52db9fb9d90d055203790d2a0131f24431", func := "loop.example/g01102/laws.FnExactShortestReset", spec := "fnExactShortestReset", unfollowed := true, recurses := true, apart := false }
def FnExactShortestResetSaid : Prop := fnExactShortestResetRow.holds Try.pinned (OpenSpec.ofChange fnExactShortestResetSpec)

/-- ITS FALSE NEIGHBOUR: 'it returns false'. Refute it at one input. -/
def fnExactShortestResetWrong : ChangeSpec := { name := "fnExactShortestReset", fn := fun _ => fun
  | [d] => { results := [.lit (.bool false)], args := [d] }
  | _ => none }
def FnExactShortestResetWrongFalsely : Prop := fnExactShortestResetRow.holds Try.pinned (OpenSpec.ofChange fnExactShortestResetWrong)

/-- 'laws.FnExactCountColourings': WHATEVER THE INPUT: true; the input reads as it did. -/
def fnExactCountColouringsSpec : ChangeSpec := { name := "fnExactCountColourings", fn := fun _ => fun
  | [d] => { results := [.lit (.bool true)], args := [d] }
  | _ => none }
def fnExactCountColouringsRow : OpenClaim := { program := "ytlgnbbfhejjodaa", sum := "85a3021030d68c43affbb29c66531c52db9fb9d90d055203790d2a0131f24431", func := "loop.example/g01102/laws.FnExactCountColourings", spec := "fnExactCountColourings", unfollowed := true, recurses := true, apart := false }
def FnExactCountColouringsSaid : Prop := fnExactCountColouringsRow.holds Try.pinned (OpenSpec.ofChange fnExactCountColouringsSpec)

/-- ITS FALSE NEIGHBOUR: 'it returns false'. Refute it at one input. -/
def fnExactCountColouringsWrong : ChangeSpec := { name := "fnExactCountColourings", fn := fun _ => fun
  | [d] => { results := [.lit (.bool false)], args := [d] }
  | _ => none }
def FnExactCountColouringsWrongFalsely : Prop := fnExactCountColouringsRow.holds Try.pinned (OpenSpec.ofChange fnExactCountColouringsWrong)

/-- 'laws.FnExactColouringAt': WHATEVER THE INPUT: true; the input reads as it did. -/
def fnExactColouringAtSpec : ChangeSpec := { name := "fnExactColouringAt", fn := fun _ => fun
  | [d1, d2] => { results := [.lit (.bool true)], args := [d1, d2] }
  | _ => none }
def fnExactColouringAtRow : OpenClaim := { program := "ytlgnbbfhejjodaa", sum := "85a3021030d68c43affbb29c66531c52db9fb9d90d055203790d2a0131f24431", func := "loop.example/g01102/laws.FnExactColouringAt", spec := "fnExactColouringAt", unfollowed := true, recurses := true, apart := false }
def FnExactColouringAtSaid : Prop := fnExactColouringAtRow.holds Try.pinned (OpenSpec.ofChange fnExactColouringAtSpec)

/-- ITS FALSE NEIGHBOUR: 'it returns false'. Refute it at one input. -/
def fnExactColouringAtWrong : ChangeSpec := { name := "fnExactColouringAt", fn := fun _ => fun
  | [d1, d2] => { results := [.lit (.bool false)], args := [d1, d2] }
  | _ => none }
def FnExactColouringAtWrongFalsely : Prop := fnExactColouringAtRow.holds Try.pinned (OpenSpec.ofChange fnExactColouringAtWrong)

/-- 'laws.FnExactLeastRankColouring': WHATEVER THE INPUT: true; the input reads as it did. -/
def fnExactLeastRankColouringSpec : ChangeSpec := { name := "fnExactLeastRankColouring", fn := fun _ => fun
  | [d] => { results := [.lit (.bool true)], args := [d] }
  | _ => none }
def fnExactLeastRankColouringRow : OpenClaim := { program := "ytlgnbbfhejjodaa", sum := "85a3021030d68c43affbb29c66531c52db9fb9d90d055203790d2a0131f24431", func := "loop.example/g01102/laws.FnExactLeastRankColouring", spec := "fnExactLeastRankColouring", unfollowed := true, recurses := true, apart := false }
def FnExactLeastRankColouringSaid : Prop := fnExactLeastRankColouringRow.holds Try.pinned (OpenSpec.ofChange fnExactLeastRankColouringSpec)

/-- ITS FALSE NEIGHBOUR: 'it returns false'. Refute it at one input. -/
def fnExactLeastRankColouringWrong : ChangeSpec := { name := "fnExactLeastRankColouring", fn := fun _ => fun
  | [d] => { results := [.lit (.bool false)], args := [d] }
  | _ => none }
def FnExactLeastRankColouringWrongFalsely : Prop := fnExactLeastRankColouringRow.holds Try.pinned (OpenSpec.ofChange fnExactLeastRankColouringWrong)

/-- 'laws.FnExactCountResetColourings': WHATEVER THE INPUT: true; the input reads as it did. -/
def fnExactCountResetColouringsSpec : ChangeSpec := { name := "fnExactCountResetColourings", fn := fun _ => fun
  | [d] => { results := [.lit (.bool true)], args := [d] }
  | _ => none }
def fnExactCountResetColouringsRow : OpenClaim := { program := "ytlgnbbfhejjodaa", sum := "85a3021030d68c43affbb29c66531c52db9fb9d90d055203790d2a0131f24431", func := "loop.example/g01102/laws.FnExactCountResetColourings", spec := "fnExactCountResetColourings", unfollowed := true, recurses := true, apart := false }
def FnExactCountResetColouringsSaid : Prop := fnExactCountResetColouringsRow.holds Try.pinned (OpenSpec.ofChange fnExactCountResetColouringsSpec)

/-- ITS FALSE NEIGHBOUR: 'it returns false'. Refute it at one input. -/
def fnExactCountResetColouringsWrong : ChangeSpec := { name := "fnExactCountResetColourings", fn := fun _ => fun
  | [d] => { results := [.lit (.bool false)], args := [d] }
  | _ => none }
def FnExactCountResetColouringsWrongFalsely : Prop := fnExactCountResetColouringsRow.holds Try.pinned (OpenSpec.ofChange fnExactCountResetColouringsWrong)

/-- 'laws.FnExactFirstResetColouring': WHATEVER THE INPUT: true; the input reads as it did. -/
def fnExactFirstResetColouringSpec : ChangeSpec := { name := "fnExactFirstResetColouring", fn := fun _ => fun
  | [d] => { results := [.lit (.bool true)], args := [d] }
  | _ => none }
def fnExactFirstResetColouringRow : OpenClaim := { program := "ytlgnbbfhejjodaa", sum := "85a3021030d68c43affbb29c66531c52db9fb9d90d055203790d2a0131f24431", func := "loop.example/g01102/laws.FnExactFirstResetColouring", spec := "fnExactFirstResetColouring", unfollowed := true, recurses := true, apart := false }
def FnExactFirstResetColouringSaid : Prop := fnExactFirstResetColouringRow.holds Try.pinned (OpenSpec.ofChange fnExactFirstResetColouringSpec)

/-- ITS FALSE NEIGHBOUR: 'it returns false'. Refute it at one input. -/
def fnExactFirstResetColouringWrong : ChangeSpec := { name := "fnExactFirstResetColouring", fn := fun _ => fun
  | [d] => { results := [.lit (.bool false)], args := [d] }
  | _ => none }
def FnExactFirstResetColouringWrongFalsely : Prop := fnExactFirstResetColouringRow.holds Try.pinned (OpenSpec.ofChange fnExactFirstResetColouringWrong)

/-- 'laws.FnExactHasResetColouring': WHATEVER THE INPUT: true; the input reads as it did. -/
def fnExactHasResetColouringSpec : ChangeSpec := { name := "fnExactHasResetColouring", fn := fun _ => fun
  | [d] => { results := [.lit (.bool true)], args := [d] }
  | _ => none }
def fnExactHasResetColouringRow : OpenClaim := { program := "ytlgnbbfhejjodaa", sum := "85a3021030d68c43affbb29c66531c52db9fb9d90d055203790d2a0131f24431", func := "loop.example/g01102/laws.FnExactHasResetColouring", spec := "fnExactHasResetColouring", unfollowed := true, recurses := true, apart := false }
def FnExactHasResetColouringSaid : Prop := fnExactHasResetColouringRow.holds Try.pinned (OpenSpec.ofChange fnExactHasResetColouringSpec)

/-- ITS FALSE NEIGHBOUR: 'it returns false'. Refute it at one input. -/
def fnExactHasResetColouringWrong : ChangeSpec := { name := "fnExactHasResetColouring", fn := fun _ => fun
  | [d] => { results := [.lit (.bool false)], args := [d] }
  | _ => none }
def FnExactHasResetColouringWrongFalsely : Prop := fnExactHasResetColouringRow.holds Try.pinned (OpenSpec.ofChange fnExactHasResetColouringWrong)

/-- 'laws.FnExactIsConnected': WHATEVER THE INPUT: true; the input reads as it did. -/
def fnExactIsConnectedSpec : ChangeSpec := { name := "fnExactIsConnected", fn := fun _ => fun
  | [d] => { results := [.lit (.bool true)], args := [d] }
  | _ => none }
def fnExactIsConnectedRow : OpenClaim := { program := "ytlgnbbfhejjodaa", sum := "85a3021030d68c43affbb29c66531c52db9fb9d90d055203790d2a0131f24431", func := "loop.example/g01102/laws.FnExactIsConnected", spec := "fnExactIsConnected", unfollowed := true, recurses := true, apart := false }
def FnExactIsConnectedSaid : Prop := fnExactIsConnectedRow.holds Try.pinned (OpenSpec.ofChange fnExactIsConnectedSpec)

/-- ITS FALSE NEIGHBOUR: 'it returns false'. Refute it at one input. -/
def fnExactIsConnectedWrong : ChangeSpec := { name := "fnExactIsConnected", fn := fun _ => fun
  | [d] => { results := [.lit (.bool false)], args := [d] }
  | _ => none }
def FnExactIsConnectedWrongFalsely : Prop := fnExactIsConnectedRow.holds Try.pinned (OpenSpec.ofChange fnExactIsConnectedWrong)

/-- 'laws.FnExactPeriodOf': WHATEVER THE INPUT: true; the input reads as it did. -/
def fnExactPeriodOfSpec : ChangeSpec := { name := "fnExactPeriodOf", fn := fun _ => fun
  | [d] => { results := [.lit (.bool true)], args := [d] }
  | _ => none }
def fnExactPeriodOfRow : OpenClaim := { program := "ytlgnbbfhejjodaa", sum := "85a3021030d68c43affbb29c66531c52db9fb9d90d055203790d2a0131f24431", func := "loop.example/g01102/laws.FnExactPeriodOf", spec := "fnExactPeriodOf", unfollowed := true, recurses := true, apart := false }
def FnExactPeriodOfSaid : Prop := fnExactPeriodOfRow.holds Try.pinned (OpenSpec.ofChange fnExactPeriodOfSpec)

/-- ITS FALSE NEIGHBOUR: 'it returns false'. Refute it at one input. -/
def fnExactPeriodOfWrong : ChangeSpec := { name := "fnExactPeriodOf", fn := fun _ => fun
  | [d] => { results := [.lit (.bool false)], args := [d] }
  | _ => none }
def FnExactPeriodOfWrongFalsely : Prop := fnExactPeriodOfRow.holds Try.pinned (OpenSpec.ofChange fnExactPeriodOfWrong)

/-- 'laws.FnExactSinkOf': WHATEVER THE INPUT: true; the input reads as it did. -/
def fnExactSinkOfSpec : ChangeSpec := { name := "fnExactSinkOf", fn := fun _ => fun
  | [d] => { results := [.lit (.bool true)], args := [d] }
  | _ => none }
def fnExactSinkOfRow : OpenClaim := { program := "ytlgnbbfhejjodaa", sum := "85a3021030d68c43affbb29c66531c52db9fb9d90d055203790d2a0131f24431", func := "loop.example/g01102/laws.FnExactSinkOf", spec := "fnExactSinkOf", unfollowed := true, recurses := true, apart := false }
def FnExactSinkOfSaid : Prop := fnExactSinkOfRow.holds Try.pinned (OpenSpec.ofChange fnExactSinkOfSpec)

/-- ITS FALSE NEIGHBOUR: 'it returns false'. Refute it at one input. -/
def fnExactSinkOfWrong : ChangeSpec := { name := "fnExactSinkOf", fn := fun _ => fun
  | [d] => { results := [.lit (.bool false)], args := [d] }
  | _ => none }
def FnExactSinkOfWrongFalsely : Prop := fnExactSinkOfRow.holds Try.pinned (OpenSpec.ofChange fnExactSinkOfWrong)

/-- 'laws.FnExactCarefulWord': WHATEVER THE INPUT: true; the input reads as it did. -/
def fnExactCarefulWordSpec : ChangeSpec := { name := "fnExactCarefulWord", fn := fun _ => fun
  | [d] => { results := [.lit (.bool true)], args := [d] }
  | _ => none }
def fnExactCarefulWordRow : OpenClaim := { program := "ytlgnbbfhejjodaa", sum := "85a3021030d68c43affbb29c66531c52db9fb9d90d055203790d2a0131f24431", func := "loop.example/g01102/laws.FnExactCarefulWord", spec := "fnExactCarefulWord", unfollowed := true, recurses := true, apart := false }
def FnExactCarefulWordSaid : Prop := fnExactCarefulWordRow.holds Try.pinned (OpenSpec.ofChange fnExactCarefulWordSpec)

/-- ITS FALSE NEIGHBOUR: 'it returns false'. Refute it at one input. -/
def fnExactCarefulWordWrong : ChangeSpec := { name := "fnExactCarefulWord", fn := fun _ => fun
  | [d] => { results := [.lit (.bool false)], args := [d] }
  | _ => none }
def FnExactCarefulWordWrongFalsely : Prop := fnExactCarefulWordRow.holds Try.pinned (OpenSpec.ofChange fnExactCarefulWordWrong)

/- THE SECOND FORM. 'bulk': how many values and letters a reading holds, each counted each time it is reached (what is shared counts as often as it is met; a slice's spare places count too). A statement '..UptoSaid' is the law's where the arguments, and the package variables that the reading takes, are together of bulk at most 1048576: NARROWER than '..Said'. Prove '..Said' where nothing that the law and all that it calls make is longer than what came in: it says more and counts as full. Else prove '..UptoSaid'. A law counts once. -/
mutual
def uptoBulk {H : Type} : DataW H → Nat
  | .lit (.string bytes) => bytes.length + 1
  | .lit _ => 1
  | .nil => 1
  | .ptr d => uptoBulk d + 1
  | .slice elems spare => uptoBulkAll elems + uptoBulkAll spare + 1
  | .agg parts => uptoBulkAll parts + 1
  | .iface _ d => uptoBulk d + 1
  | .map entries => uptoBulkEntries entries + 1
  | .held _ => 1
def uptoBulkAll {H : Type} : List (DataW H) → Nat
  | [] => 0
  | d :: r => uptoBulk d + uptoBulkAll r
def uptoBulkEntries {H : Type} : List (Lit × DataW H) → Nat
  | [] => 0
  | x :: r => uptoBulkEntry x + uptoBulkEntries r
def uptoBulkEntry {H : Type} : Lit × DataW H → Nat
  | (.string bytes, d) => bytes.length + uptoBulk d + 1
  | (_, d) => uptoBulk d + 1
 end
def uptoSmall : (H : Type) → List (DataW H) → Bool := fun _ ds => decide (uptoBulkAll ds ≤ 1048576)
def OpenSpec.upto (s : _root_.Go.ChangeSpec) : _root_.Go.OpenSpec := { _root_.Go.OpenSpec.ofChange s with cond := some uptoSmall }

/-- 'laws.FnExactRankOf', WHERE WHAT IT READS IS OF BULK AT MOST 1048576: true; the input reads as it did. -/
def fnExactRankOfUptoRow : OpenClaim := { program := "ytlgnbbfhejjodaa", sum := "85a3021030d68c43affbb29c66531c52db9fb9d90d055203790d2a0131f24431", func := "loop.example/g01102/laws.FnExactRankOf", spec := "fnExactRankOf", unfollowed := true, recurses := true, apart := false, narrowed := true }
def FnExactRankOfUptoSaid : Prop := fnExactRankOfUptoRow.holds Try.pinned (OpenSpec.upto fnExactRankOfSpec)

/-- 'laws.FnExactShortestReset', WHERE WHAT IT READS IS OF BULK AT MOST 1048576: true; the input reads as it did. -/
def fnExactShortestResetUptoRow : OpenClaim := { program := "ytlgnbbfhejjodaa", sum := "85a3021030d68c43affbb29c66531c52db9fb9d90d055203790d2a0131f24431", func := "loop.example/g01102/laws.FnExactShortestReset", spec := "fnExactShortestReset", unfollowed := true, recurses := true, apart := false, narrowed := true }
def FnExactShortestResetUptoSaid : Prop := fnExactShortestResetUptoRow.holds Try.pinned (OpenSpec.upto fnExactShortestResetSpec)

/-- 'laws.FnExactCountColourings', WHERE WHAT IT READS IS OF BULK AT MOST 1048576: true; the input reads as it did. -/
def fnExactCountColouringsUptoRow : OpenClaim := { program := "ytlgnbbfhejjodaa", sum := "85a3021030d68c43affbb29c66531c52db9fb9d90d055203790d2a0131f24431", func := "loop.example/g01102/laws.FnExactCountColourings", spec := "fnExactCountColourings", unfollowed := true, recurses := true, apart := false, narrowed := true }
def FnExactCountColouringsUptoSaid : Prop := fnExactCountColouringsUptoRow.holds Try.pinned (OpenSpec.upto fnExactCountColouringsSpec)

/-- 'laws.FnExactColouringAt', WHERE WHAT IT READS IS OF BULK AT MOST 1048576: true; the input reads as it did. -/
def fnExactColouringAtUptoRow : OpenClaim := { program := "ytlgnbbfhejjodaa", sum := "85a3021030d68c43affbb29c66531c52db9fb9d90d055203790d2a0131f24431", func := "loop.example/g01102/laws.FnExactColouringAt", spec := "fnExactColouringAt", unfollowed := true, recurses := true, apart := false, narrowed := true }
def FnExactColouringAtUptoSaid : Prop := fnExactColouringAtUptoRow.holds Try.pinned (OpenSpec.upto fnExactColouringAtSpec)

/-- 'laws.FnExactLeastRankColouring', WHERE WHAT IT READS IS OF BULK AT MOST 1048576: true; the input reads as it did. -/
def fnExactLeastRankColouringUptoRow : OpenClaim := { program := "ytlgnbbfhejjodaa", sum := "85a3021030d68c43affbb29c66531c52db9fb9d90d055203790d2a0131f24431", func := "loop.example/g01102/laws.FnExactLeastRankColouring", spec := "fnExactLeastRankColouring", unfollowed := true, recurses := true, apart := false, narrowed := true }
def FnExactLeastRankColouringUptoSaid : Prop := fnExactLeastRankColouringUptoRow.holds Try.pinned (OpenSpec.upto fnExactLeastRankColouringSpec)

/-- 'laws.FnExactCountResetColourings', WHERE WHAT IT READS IS OF BULK AT MOST 1048576: true; the input reads as it did. -/
def fnExactCountResetColouringsUptoRow : OpenClaim := { program := "ytlgnbbfhejjodaa", sum := "85a3021030d68c43affbb29c66531c52db9fb9d90d055203790d2a0131f24431", func := "loop.example/g01102/laws.FnExactCountResetColourings", spec := "fnExactCountResetColourings", unfollowed := true, recurses := true, apart := false, narrowed := true }
def FnExactCountResetColouringsUptoSaid : Prop := fnExactCountResetColouringsUptoRow.holds Try.pinned (OpenSpec.upto fnExactCountResetColouringsSpec)

/-- 'laws.FnExactFirstResetColouring', WHERE WHAT IT READS IS OF BULK AT MOST 1048576: true; the input reads as it did. -/
def fnExactFirstResetColouringUptoRow : OpenClaim := { program := "ytlgnbbfhejjodaa", sum := "85a3021030d68c43affbb29c66531c52db9fb9d90d055203790d2a0131f24431", func := "loop.example/g01102/laws.FnExactFirstResetColouring", spec := "fnExactFirstResetColouring", unfollowed := true, recurses := true, apart := false, narrowed := true }
def FnExactFirstResetColouringUptoSaid : Prop := fnExactFirstResetColouringUptoRow.holds Try.pinned (OpenSpec.upto fnExactFirstResetColouringSpec)

/-- 'laws.FnExactHasResetColouring', WHERE WHAT IT READS IS OF BULK AT MOST 1048576: true; the input reads as it did. -/
def fnExactHasResetColouringUptoRow : OpenClaim := { program := "ytlgnbbfhejjodaa", sum := "85a3021030d68c43affbb29c66531c52db9fb9d90d055203790d2a0131f24431", func := "loop.example/g01102/laws.FnExactHasResetColouring", spec := "fnExactHasResetColouring", unfollowed := true, recurses := true, apart := false, narrowed := true }
def FnExactHasResetColouringUptoSaid : Prop := fnExactHasResetColouringUptoRow.holds Try.pinned (OpenSpec.upto fnExactHasResetColouringSpec)

/-- 'laws.FnExactIsConnected', WHERE WHAT IT READS IS OF BULK AT MOST 1048576: true; the input reads as it did. -/
def fnExactIsConnectedUptoRow : OpenClaim := { program := "ytlgnbbfhejjodaa", sum := "85a3021030d68c43affbb29c66531c52db9fb9d90d055203790d2a0131f24431", func := "loop.example/g01102/laws.FnExactIsConnected", spec := "fnExactIsConnected", unfollowed := true, recurses := true, apart := false, narrowed := true }
def FnExactIsConnectedUptoSaid : Prop := fnExactIsConnectedUptoRow.holds Try.pinned (OpenSpec.upto fnExactIsConnectedSpec)

/-- 'laws.FnExactPeriodOf', WHERE WHAT IT READS IS OF BULK AT MOST 1048576: true; the input reads as it did. -/
def fnExactPeriodOfUptoRow : OpenClaim := { program := "ytlgnbbfhejjodaa", sum := "85a3021030d68c43affbb29c66531c52db9fb9d90d055203790d2a0131f24431", func := "loop.example/g01102/laws.FnExactPeriodOf", spec := "fnExactPeriodOf", unfollowed := true, recurses := true, apart := false, narrowed := true }
def FnExactPeriodOfUptoSaid : Prop := fnExactPeriodOfUptoRow.holds Try.pinned (OpenSpec.upto fnExactPeriodOfSpec)

/-- 'laws.FnExactSinkOf', WHERE WHAT IT READS IS OF BULK AT MOST 1048576: true; the input reads as it did. -/
def fnExactSinkOfUptoRow : OpenClaim := { program := "ytlgnbbfhejjodaa", sum := "85a3021030d68c43affbb29c66531c52db9fb9d90d055203790d2a0131f24431", func := "loop.example/g01102/laws.FnExactSinkOf", spec := "fnExactSinkOf", unfollowed := true, recurses := true, apart := false, narrowed := true }
def FnExactSinkOfUptoSaid : Prop := fnExactSinkOfUptoRow.holds Try.pinned (OpenSpec.upto fnExactSinkOfSpec)

/-- 'laws.FnExactCarefulWord', WHERE WHAT IT READS IS OF BULK AT MOST 1048576: true; the input reads as it did. -/
def fnExactCarefulWordUptoRow : OpenClaim := { program := "ytlgnbbfhejjodaa", sum := "85a3021030d68c43affbb29c66531c52db9fb9d90d055203790d2a0131f24431", func := "loop.example/g01102/laws.FnExactCarefulWord", spec := "fnExactCarefulWord", unfollowed := true, recurses := true, apart := false, narrowed := true }
def FnExactCarefulWordUptoSaid : Prop := fnExactCarefulWordUptoRow.holds Try.pinned (OpenSpec.upto fnExactCarefulWordSpec)

end Rows
end Go.Proofs.Ytlgnbbfhejjodaa
